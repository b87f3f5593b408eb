/- Contracts and laws beneath the statement, in build order. -/
import Derived.Laws.Externs
import Derived.Test.YtpijmanjjhpkiaaGreatDoorPB2
set_option linter.unusedSimpArgs false
set_option linter.unusedVariables false
namespace Go.Proofs.YtpijmanjjhpkiaaGreatDoor
open Go.AM Go.RowKit
set_option maxRecDepth 100000

def manyN (s : Sit) : Nat := if 1 < s.plans.length then s.plans.length else 1
theorem many_spec (s : Sit) : FnD Tryz.prog 118 [sitV s] (.int .i64 (manyN s)) := by
  unfold sitV
  refine fnD_of mixed Tryz.func118 rfl rfl (by simp [Tryz.ntmps118]) fun hwf E => ?_
  simp (disch := omega) [go_sem, sets_len, rows_len] at hwf
  simp (disch := omega) [Tryz.ntmps118, go_sem]
  unfold manyN
  split <;> split <;> omega
theorem span26_spec (x : Int) : FnD Tryz.prog 119 [.int .i64 x] (.bool (inN x 0 1048576)) := by
  refine fnD_of mixed Tryz.func119 rfl rfl (by simp [Tryz.ntmps119]) fun hwf E => ?_
  simp (disch := omega) [Tryz.ntmps119, go_sem, inN]

def scaleOk (s : Sit) (i c : Int) : Prop := (0 ≤ i ∧ i < manyN s) ∧ 0 ≤ c ∧ c ≤ 1048576
instance (s : Sit) (i c : Int) : Decidable (scaleOk s i c) := by unfold scaleOk; infer_instance
noncomputable def scaleV (s : Sit) (i c : Int) : Pln := if SiteOk s ∧ scaleOk s i c then scaleN s i.toNat c else ⟨0, 0, []⟩
noncomputable def scaleE (s : Sit) (i c : Int) : Int := if SiteOk s then (if scaleOk s i c then 0 else 2) else 50
set_option maxHeartbeats 1000000 in
theorem Scale_spec (s : Sit) (i c : Int) : FnD Tryz.prog 68 [sitV s, .int .i64 i, .int .i64 c] (.tup [plnV (scaleV s i c), .int .i64 (scaleE s i c)]) tabG := by
  have hpu := (⟨grps_pure s.groups, phas_pure s.phases, eyes_pure s.eyes, plns_pure s.plans, sets_pure s.apart, rows_pure s.between⟩ : _ ∧ _ ∧ _ ∧ _ ∧ _ ∧ _)
  obtain ⟨hp1, hp2, hp3, hp4, hp5, hp6⟩ := hpu
  have qc := check_spec s
  have qm := many_spec s
  have qs := fun (h : SiteOk s) (h1 : scaleOk s i c) => scale_spec s i.toNat c h (by unfold scaleOk manyN at h1; split at h1 <;> omega) h1.2
  have hsv : sitV s = .agg [.int .i64 s.id, .sl 3 (s.groups.map grpV), .sl 1 (sets s.apart), .sl 1 (rows s.between), .sl 5 (s.phases.map phaV), .sl 4 (s.eyes.map eyeV), .int .i64 s.watch, .int .i64 s.feed, .int .i64 s.heal, .int .i64 s.low, .int .i64 s.high, .sl 3 (s.plans.map plnV)] := rfl
  rw [hsv] at qc qm qs ⊢
  refine fnD_of mixed Tryz.func68 rfl rfl (by simp [Tryz.ntmps68]) fun hwf E => ?_
  simp (disch := omega) [go_sem, sets_len, rows_len] at hwf
  have hmn : manyN s ≤ 140737488355328 := by unfold manyN; split <;> omega
  simp (disch := omega) [Tryz.ntmps68, go_sem]
  refine callK_data qc [] (by simp [go_sem, hp1, hp2, hp3, hp4, hp5, hp6]) (.inl rfl) (by simp [go_sem]) (fun _ => ?_) (by simp [tabG, go_sem])
  by_cases hOk : SiteOk s
  · have e1 : scaleE s i c = if scaleOk s i c then 0 else 2 := by unfold scaleE; rw [if_pos hOk]
    rw [checkN_ok hOk, e1]
    by_cases h0 : i < 0
    · have hb : ¬ scaleOk s i c := fun e => by have := e.1.1; omega
      have e2 : scaleV s i c = ⟨0, 0, []⟩ := by unfold scaleV; rw [if_neg (fun e => hb e.2)]
      rw [e2, if_neg hb]
      simp (disch := omega) [go_sem, h0, plnV, ints]
    · simp (disch := omega) [go_sem, h0]
      refine callK_data qm [] (by simp [go_sem, hp1, hp2, hp3, hp4, hp5, hp6]) (.inl rfl) (by simp [go_sem]) (fun _ => ?_)
      by_cases h1 : (manyN s : Int) ≤ i
      · have hb : ¬ scaleOk s i c := fun e => by have := e.1.2; omega
        have e2 : scaleV s i c = ⟨0, 0, []⟩ := by unfold scaleV; rw [if_neg (fun e => hb e.2)]
        rw [e2, if_neg hb]
        simp (disch := omega) [go_sem, h0, h1, plnV, ints]
      · simp (disch := omega) [go_sem, h0, h1]
        refine callK_data (span26_spec c) [] (by simp [go_sem]) (.inl rfl) (by simp [go_sem]) (fun _ => ?_)
        by_cases h2 : inN c 0 1048576 = true
        · have hb : scaleOk s i c := ⟨by omega, by simpa [inN] using h2⟩
          have e2 : scaleV s i c = scaleN s i.toNat c := by unfold scaleV; rw [if_pos ⟨hOk, hb⟩]
          rw [e2, if_pos hb]
          have q := qs hOk hb
          rw [show ((i.toNat : Nat) : Int) = i by omega] at q
          simp (disch := omega) [go_sem, h0, h1, h2]
          refine callK_data q [] (by simp [go_sem, hp1, hp2, hp3, hp4, hp5, hp6]) (.inl rfl) (by simp [go_sem, plnV, ints_pure]) (fun _ => ?_) (by simp [tabG, go_sem])
          simp (disch := omega) [go_sem, plnV, ints_len]
        · have hb : ¬ scaleOk s i c := fun e => h2 (by simpa [inN] using e.2)
          have e2 : scaleV s i c = ⟨0, 0, []⟩ := by unfold scaleV; rw [if_neg (fun e => hb e.2)]
          rw [e2, if_neg hb]
          simp (disch := omega) [go_sem, h0, h1, h2, plnV, ints]
  · have e1 : scaleE s i c = 50 := by unfold scaleE; rw [if_neg hOk]
    have e2 : scaleV s i c = ⟨0, 0, []⟩ := by unfold scaleV; rw [if_neg (fun e => hOk e.1)]
    rw [checkN_bad hOk, e1, e2]
    simp (disch := omega) [go_sem, plnV, ints]
end Go.Proofs.YtpijmanjjhpkiaaGreatDoor

namespace Go.Proofs.YtpijmanjjhpkiaaGreatDoor
open Go.AM Go.RowKit
set_option maxRecDepth 100000

def rowV (r : Int × Int) : V := .agg [.int .i64 r.1, .int .i64 r.2]
theorem rowsV_pure (l : List (Int × Int)) : pures (l.map rowV) := pures_map _ (fun u => by simp [rowV, go_sem]) l
def cmpN (a b : Int × Int) : Int := if a.2 < b.2 then -1 else if b.2 < a.2 then 1 else 0
theorem wish1_spec (a b : Int × Int) : FnD Tryz.prog 154 [rowV a, rowV b] (.int .i64 (cmpN a b)) := by
  unfold rowV
  refine fnD_of mixed Tryz.func154 rfl rfl (by simp [Tryz.ntmps154]) fun hwf E => ?_
  clear hwf
  simp (disch := omega) [Tryz.ntmps154, go_sem]
  unfold cmpN
  refine br_of (fun h => ?_) (fun h => ?_) <;> simp at h
  · simp (disch := omega) [go_sem, h]
  · have h' : ¬ a.2 < b.2 := by omega
    simp (disch := omega) [go_sem]
    refine br_of (fun g => ?_) (fun g => ?_) <;> simp at g
    · simp (disch := omega) [go_sem, h', g]
    · have g' : ¬ b.2 < a.2 := by omega
      simp (disch := omega) [go_sem, h', g']
def bestK (l : List (Int × Int)) : Nat → Int × Int
  | 0 => l.getD 0 (0, 0)
  | k + 1 => if (l.getD k (0, 0)).2 < (bestK l k).2 then l.getD k (0, 0) else bestK l k
theorem bestK_one (l : List (Int × Int)) : bestK l 1 = l.getD 0 (0, 0) := by simp [bestK]

set_option maxHeartbeats 1000000 in
theorem minFunc_spec (l : List (Int × Int)) (h0 : 0 < l.length) : FnD Tryz.prog 153 [.sl 2 (l.map rowV), .func (.func 154) [] []] (rowV (bestK l l.length)) := by
  have hpl := rowsV_pure l
  have qw := fun a b => wish1_spec a b
  have hg0 : nth (l.map rowV) 0 = rowV l[0] := nth_map h0
  refine fnD_of mixed Tryz.func153 rfl rfl (by simp [Tryz.ntmps153]) fun hwf E => ?_
  simp (disch := omega) [go_sem] at hwf
  simp (disch := omega) [Tryz.ntmps153, go_sem]
  refine br_of (fun h => ?_) (fun h => ?_) <;> simp at h
  · exfalso; omega
  · simp (disch := omega) [go_sem, h0, hg0, rowV]
    have hb1 : bestK l 1 = l[0] := by rw [bestK_one]; simp [h0]
    refine awz_loop mixed (fun k : Nat => ⟨[(6, .int .i64 k), (5, .ptr 112 1 0 0), (4, .ptr 0 1 0 0), (0, .sl 2 (l.map rowV)), (1, .func (.func 154) [] [])], [(112, ⟨.box, 198, 2, [rowV (bestK l k)]⟩), (0, ⟨.box, 198, 2, [.agg [.int .i64 0, .int .i64 0]]⟩)], 1024, [], 33, 0, []⟩)
      (fun k => 1 ≤ k ∧ k ≤ l.length) (fun k => l.length - k) 1 (by omega) ?_ ?_
    · refine (Le.mk [(0, some 0), (112, some 112)] [0, 112] ⟨rfl, rfl, rfl⟩ ?_ ?_ ?_) <;> simp [go_sem, hpl, hb1, rowV]
    · rintro k ⟨hk1, hk⟩
      simp (disch := omega) [go_sem]
      refine br_of (fun g => ?_) (fun g => ?_) <;> simp at g
      · have g' : k < l.length := by omega
        have hg : nth (l.map rowV) k = rowV l[k] := nth_map g'
        have hbs : bestK l (k + 1) = if l[k].2 < (bestK l k).2 then l[k] else bestK l k := by simp [bestK, g']
        have q := qw l[k] (bestK l k)
        simp (disch := omega) [go_sem, g', hg, rowV]
        refine callK_data q [] (by simp [go_sem, rowV]) (.inl rfl) (by simp [go_sem]) (fun _ => ?_)
        by_cases hlt : l[k].2 < (bestK l k).2
        · have hc : cmpN l[k] (bestK l k) = -1 := by unfold cmpN; rw [if_pos hlt]
          rw [hc]
          simp (disch := omega) [go_sem, g', hg, rowV]
          refine ⟨.inl (by kernel_rfl), ?_⟩
          refine round_of (k + 1) (by omega) (by omega) (Le.mk [(0, some 0), (112, some 112)] [0, 112] ⟨rfl, rfl, rfl⟩ ?_ ?_ ?_) <;> simp [go_sem, hpl, hbs, hlt, rowV]
        · have hc : ¬ cmpN l[k] (bestK l k) < 0 := by unfold cmpN; rw [if_neg hlt]; split <;> omega
          simp (disch := omega) [go_sem, g', hg, rowV, hc]
          refine ⟨.inl (by kernel_rfl), ?_⟩
          refine round_of (k + 1) (by omega) (by omega) (Le.mk [(0, some 0), (112, some 112)] [0, 112] ⟨rfl, rfl, rfl⟩ ?_ ?_ ?_) <;> simp [go_sem, hpl, hbs, hlt, rowV]
      · have hkl : k = l.length := by omega
        subst hkl
        simp (disch := omega) [go_sem, rowV]
end Go.Proofs.YtpijmanjjhpkiaaGreatDoor

namespace Go.Proofs.YtpijmanjjhpkiaaGreatDoor
open Go.AM Go.RowKit
set_option maxRecDepth 100000

noncomputable def wst (s : Sit) (v : Nat) (c : Int) (l : List Int) (q : Pln) : Int := mostK (scaleN s v c) q l (min q.splits.length l.length)
noncomputable def rowsK (s : Sit) (v : Nat) (c : Int) (l : List Int) (k : Nat) : List (Int × Int) := ((v : Int), wst s v c l (scaleN s v c)) :: (List.range k).map fun (i : Nat) => ((i : Int), wst s v c l (scaleN s i c))
theorem rowsK_len (s : Sit) (v : Nat) (c : Int) (l : List Int) (k : Nat) : (rowsK s v c l k).length = k + 1 := by simp [rowsK]
theorem rowsK_succ (s : Sit) (v : Nat) (c : Int) (l : List Int) (k : Nat) : rowsK s v c l (k + 1) = rowsK s v c l k ++ [((k : Int), wst s v c l (scaleN s k c))] := by simp [rowsK, List.range_succ]
noncomputable def bestN (s : Sit) (v : Nat) (c : Int) (l : List Int) : Int := (bestK (rowsK s v c l (manyN s)) (manyN s + 1)).1

set_option maxHeartbeats 4000000 in
theorem wish_ok (s : Sit) (v : Nat) (x y c : Int) (l : List Int) (hOk : SiteOk s) (hv : v < manyN s) (hx : inN x 0 1048576 = true) (hy : inN y 0 1048576 = true) (hc : inN c 0 1048576 = true) (hl : loadedN l = 0) :
    FnD Tryz.prog 117 [sitV s, .agg [.int .i64 v, .int .i64 x, .int .i64 y], .int .i64 c, .sl 1 (ints l)] (.tup [.int .i64 (bestN s v c l), .int .i64 0]) tabG := by
  have hpu := (⟨grps_pure s.groups, phas_pure s.phases, eyes_pure s.eyes, plns_pure s.plans, sets_pure s.apart, rows_pure s.between⟩ : _ ∧ _ ∧ _ ∧ _ ∧ _ ∧ _)
  obtain ⟨hp1, hp2, hp3, hp4, hp5, hp6⟩ := hpu
  have hil := ints_pure l
  have hcb : 0 ≤ c ∧ c ≤ 1048576 := by simpa [inN] using hc
  have qc := check_spec s
  rw [checkN_ok hOk] at qc
  have qm := many_spec s
  have ql := loaded_spec l
  rw [hl] at ql
  have hpl8 : s.plans.length ≤ 8 := (groups_site.1 hOk).2.2.2.1
  have hm8 : 1 ≤ manyN s ∧ manyN s ≤ 8 := by unfold manyN; split <;> omega
  have hin : ∀ i, i < manyN s → i = 0 ∨ i < s.plans.length := fun i hi => by unfold manyN at hi; split at hi <;> omega
  have qs := fun i (hi : i < manyN s) => scale_spec s i c hOk (hin i hi) hcb
  have qw := fun i => worst26_spec (scaleN s v c) (scaleN s i c) l (most2_of hOk (scale_fits v c hOk) (scale_fits i c hOk) hl)
  have hps : ∀ i, pures (ints (scaleN s i c).splits) := fun i => ints_pure _
  have hsv : sitV s = .agg [.int .i64 s.id, .sl 3 (s.groups.map grpV), .sl 1 (sets s.apart), .sl 1 (rows s.between), .sl 5 (s.phases.map phaV), .sl 4 (s.eyes.map eyeV), .int .i64 s.watch, .int .i64 s.feed, .int .i64 s.heal, .int .i64 s.low, .int .i64 s.high, .sl 3 (s.plans.map plnV)] := rfl
  rw [hsv] at qc qm qs ⊢
  refine fnD_of mixed Tryz.func117 rfl rfl (by simp [Tryz.ntmps117]) fun hwf E => ?_
  clear hwf
  have v0 : ¬ (v : Int) < 0 := by omega
  have v1 : ¬ (manyN s : Int) ≤ v := by omega
  simp (disch := omega) [Tryz.ntmps117, go_sem]
  refine callK_data qc [] (by simp [go_sem, hp1, hp2, hp3, hp4, hp5, hp6]) (.inl rfl) (by simp [go_sem]) (fun _ => ?_) (by simp [tabG, go_sem])
  simp (disch := omega) [go_sem, v0]
  refine callK_data qm [] (by simp [go_sem, hp1, hp2, hp3, hp4, hp5, hp6]) (.inl rfl) (by simp [go_sem]) (fun _ => ?_)
  simp (disch := omega) [go_sem, v0, v1]
  refine callK_data (span26_spec x) [] (by simp [go_sem]) (.inl rfl) (by simp [go_sem]) (fun _ => ?_)
  simp (disch := omega) [go_sem, v0, v1, hx]
  refine callK_data (span26_spec y) [] (by simp [go_sem]) (.inl rfl) (by simp [go_sem]) (fun _ => ?_)
  simp (disch := omega) [go_sem, v0, v1, hx, hy]
  refine callK_data (span26_spec c) [] (by simp [go_sem]) (.inl rfl) (by simp [go_sem]) (fun _ => ?_)
  simp (disch := omega) [go_sem, v0, v1, hx, hy, hc]
  refine ⟨.inl (by kernel_rfl), ?_⟩
  try simp (disch := omega) [go_sem, v0, v1, hx, hy, hc]
  refine callK_data ql [] (by simp [go_sem, hil]) (.inl rfl) (by simp [go_sem]) (fun _ => ?_) (by simp [tabG, go_sem])
  simp (disch := omega) [go_sem]
  refine callK_data (qs v hv) [] (by simp [go_sem, hp1, hp2, hp3, hp4, hp5, hp6]) (.inl rfl) (by simp [go_sem, plnV, hps]) (fun _ => ?_) (by simp [tabG, go_sem])
  simp (disch := omega) [go_sem, plnV]
  have qv := qw v
  simp only [plnV] at qv
  refine callK_data qv [] (by simp [go_sem, hps, hil]) (.inl rfl) (by simp [go_sem]) (fun _ => ?_) (by simp [tabG, go_sem])
  simp (disch := omega) [go_sem]
  refine ⟨.inl (by kernel_rfl), ?_⟩
  try simp (disch := omega) [go_sem]
  refine callK_data qm [] (by simp [go_sem, hp1, hp2, hp3, hp4, hp5, hp6]) (.inl rfl) (by simp [go_sem]) (fun _ => ?_) (by simp [tabG, go_sem])
  simp (disch := omega) [go_sem]
  have hr0 : (rowsK s v c l 0).map rowV = [.agg [.int .i64 v, .int .i64 (wst s v c l (scaleN s v c))]] := by simp [rowsK, rowV]
  have hw0 : mostK (scaleN s v c) (scaleN s v c) l (min (scaleN s v c).splits.length l.length) = wst s v c l (scaleN s v c) := rfl
  rw [hw0]
  refine awz_loop mixed (fun k : Nat => ⟨[(68, .int .i64 k), (67, .int .i64 (manyN s)), (13, .obj 880 (k + 1)), (12, .ptr 736 1 0 0), (5, .ptr 16 1 0 0), (4, .ptr 0 1 0 0), (3, .sl 1 (ints l)), (2, .int .i64 c), (8, .int .i64 0), (9, .int .i64 0)], [(880, ⟨.arr, 198, 2, (rowsK s v c l k).map rowV⟩), (736, ⟨.box, 77, 3, [plnV (scaleN s v c)]⟩), (16, ⟨.box, 50, 3, [.agg [.int .i64 v, .int .i64 x, .int .i64 y]]⟩), (0, ⟨.box, 75, 12, [sitV s]⟩)], 2048, [], 88, 0, tabG⟩)
    (fun k => k ≤ manyN s) (fun k => manyN s - k) 0 (by omega) ?_ ?_
  · refine (Le.mk [(0, some 0), (16, some 16), (736, some 736), (880, some 880)] [0, 16, 736, 880] ⟨rfl, rfl, rfl⟩ ?_ ?_ ?_) <;> simp [go_sem, sitV, plnV, hp1, hp2, hp3, hp4, hp5, hp6, hil, hps, hr0]
  · intro k hk
    have hrl := rowsK_len s v c l k
    have hrp := rowsV_pure (rowsK s v c l k)
    have hrs : (rowsK s v c l (k + 1)).map rowV = (rowsK s v c l k).map rowV ++ [.agg [.int .i64 k, .int .i64 (wst s v c l (scaleN s k c))]] := by rw [rowsK_succ, List.map_append]; rfl
    simp (disch := omega) [go_sem, sitV, plnV]
    refine br_of (fun g => ?_) (fun g => ?_) <;> simp at g
    · have g' : k < manyN s := by omega
      have qk := qs k g'
      have qv2 := qw k
      simp only [plnV] at qv2 qk
      have hwk : mostK (scaleN s v c) (scaleN s k c) l (min (scaleN s k c).splits.length l.length) = wst s v c l (scaleN s k c) := rfl
      rw [hwk] at qv2
      simp (disch := omega) [go_sem]
      refine callK_data qk [] (by simp [go_sem, hp1, hp2, hp3, hp4, hp5, hp6]) (.inl rfl) (by simp [go_sem, hps]) (fun _ => ?_) (by simp [tabG, go_sem])
      simp (disch := omega) [go_sem]
      refine callK_data qv2 [] (by simp [go_sem, hps, hil]) (.inl rfl) (by simp [go_sem]) (fun _ => ?_) (by simp [tabG, go_sem])
      simp (disch := omega) [go_sem, hrl]
      refine ⟨by omega, .inl (by kernel_rfl), ?_⟩
      refine round_of (k + 1) (by omega) (by omega) (Le.mk [(0, some 0), (16, some 16), (736, some 736), (880, some 880)] [0, 16, 736, 880] ⟨rfl, rfl, rfl⟩ ?_ ?_ ?_) <;> simp [go_sem, sitV, plnV, hp1, hp2, hp3, hp4, hp5, hp6, hil, hps, hrs, hrp]
    · have hkl : k = manyN s := by omega
      subst hkl
      simp (disch := omega) [go_sem]
      have qmf := minFunc_spec (rowsK s v c l (manyN s)) (by rw [rowsK_len]; omega)
      rw [rowsK_len] at qmf
      refine callK_data qmf [880] ?_ (.inr (by simp [go_sem, rowV])) (by simp [go_sem, rowV]) (fun _ => ?_)
      · simp [go_sem, hrl]
        exact argsLe_self hrp
      · simp (disch := omega) [go_sem, rowV, bestN]
end Go.Proofs.YtpijmanjjhpkiaaGreatDoor

namespace Go.Proofs.YtpijmanjjhpkiaaGreatDoor
open Go.AM Go.RowKit
set_option maxRecDepth 100000

def wishOk (s : Sit) (v x y c : Int) : Prop := (0 ≤ v ∧ v < manyN s) ∧ inN x 0 1048576 = true ∧ inN y 0 1048576 = true ∧ inN c 0 1048576 = true
noncomputable instance (s : Sit) (v x y c : Int) : Decidable (wishOk s v x y c) := Classical.propDecidable _
noncomputable def wish26E (s : Sit) (v x y c : Int) (l : List Int) : Int := if SiteOk s then (if wishOk s v x y c then loadedN l else 2) else 50
noncomputable def wish26V (s : Sit) (v x y c : Int) (l : List Int) : Int := if wish26E s v x y c l = 0 then bestN s v.toNat c l else 0

set_option maxHeartbeats 4000000 in
theorem Wish_spec (s : Sit) (v x y c : Int) (l : List Int) :
    FnD Tryz.prog 117 [sitV s, .agg [.int .i64 v, .int .i64 x, .int .i64 y], .int .i64 c, .sl 1 (ints l)] (.tup [.int .i64 (wish26V s v x y c l), .int .i64 (wish26E s v x y c l)]) tabG := by
  have hpu := (⟨grps_pure s.groups, phas_pure s.phases, eyes_pure s.eyes, plns_pure s.plans, sets_pure s.apart, rows_pure s.between⟩ : _ ∧ _ ∧ _ ∧ _ ∧ _ ∧ _)
  obtain ⟨hp1, hp2, hp3, hp4, hp5, hp6⟩ := hpu
  have hil := ints_pure l
  by_cases hgood : SiteOk s ∧ wishOk s v x y c ∧ loadedN l = 0
  · obtain ⟨hOk, hw, hl⟩ := hgood
    have e1 : wish26E s v x y c l = 0 := by unfold wish26E; rw [if_pos hOk, if_pos hw]; exact hl
    have e2 : wish26V s v x y c l = bestN s v.toNat c l := by unfold wish26V; rw [if_pos e1]
    rw [e1, e2]
    obtain ⟨i, rfl⟩ := Int.eq_ofNat_of_zero_le hw.1.1
    exact wish_ok s i x y c l hOk (by have := hw.1.2; omega) hw.2.1 hw.2.2.1 hw.2.2.2 hl
  have qc := check_spec s
  have qm := many_spec s
  have ql := loaded_spec l
  have hsv : sitV s = .agg [.int .i64 s.id, .sl 3 (s.groups.map grpV), .sl 1 (sets s.apart), .sl 1 (rows s.between), .sl 5 (s.phases.map phaV), .sl 4 (s.eyes.map eyeV), .int .i64 s.watch, .int .i64 s.feed, .int .i64 s.heal, .int .i64 s.low, .int .i64 s.high, .sl 3 (s.plans.map plnV)] := rfl
  rw [hsv] at qc qm ⊢
  refine fnD_of mixed Tryz.func117 rfl rfl (by simp [Tryz.ntmps117]) fun hwf E => ?_
  clear hwf
  simp (disch := omega) [Tryz.ntmps117, go_sem]
  refine callK_data qc [] (by simp [go_sem, hp1, hp2, hp3, hp4, hp5, hp6]) (.inl rfl) (by simp [go_sem]) (fun _ => ?_) (by simp [tabG, go_sem])
  have bad2 : SiteOk s → ¬ wishOk s v x y c → wish26V s v x y c l = 0 ∧ wish26E s v x y c l = 2 := fun h1 h2 => by
    have e1 : wish26E s v x y c l = 2 := by unfold wish26E; rw [if_pos h1, if_neg h2]
    exact ⟨by unfold wish26V; rw [if_neg (by rw [e1]; decide)], e1⟩
  by_cases hOk : SiteOk s
  · rw [checkN_ok hOk]
    have bad := bad2 hOk
    clear bad2
    by_cases v0 : v < 0
    · obtain ⟨b1, b2⟩ := bad (fun e => by have := e.1.1; omega)
      rw [b1, b2]
      simp (disch := omega) [go_sem, v0]
      exact .inl (by kernel_rfl)
    · simp (disch := omega) [go_sem, v0]
      refine callK_data qm [] (by simp [go_sem, hp1, hp2, hp3, hp4, hp5, hp6]) (.inl rfl) (by simp [go_sem]) (fun _ => ?_)
      by_cases v1 : (manyN s : Int) ≤ v
      · obtain ⟨b1, b2⟩ := bad (fun e => by have := e.1.2; omega)
        rw [b1, b2]
        simp (disch := omega) [go_sem, v0, v1]
        exact .inl (by kernel_rfl)
      · simp (disch := omega) [go_sem, v0, v1]
        refine callK_data (span26_spec x) [] (by simp [go_sem]) (.inl rfl) (by simp [go_sem]) (fun _ => ?_)
        by_cases hx : inN x 0 1048576 = true
        · simp (disch := omega) [go_sem, v0, v1, hx]
          refine callK_data (span26_spec y) [] (by simp [go_sem]) (.inl rfl) (by simp [go_sem]) (fun _ => ?_)
          by_cases hy : inN y 0 1048576 = true
          · simp (disch := omega) [go_sem, v0, v1, hx, hy]
            refine callK_data (span26_spec c) [] (by simp [go_sem]) (.inl rfl) (by simp [go_sem]) (fun _ => ?_)
            by_cases hc : inN c 0 1048576 = true
            · have hw : wishOk s v x y c := ⟨by omega, hx, hy, hc⟩
              have hl : loadedN l ≠ 0 := fun e => hgood ⟨hOk, hw, e⟩
              have e1 : wish26E s v x y c l = loadedN l := by unfold wish26E; rw [if_pos hOk, if_pos hw]
              have e2 : wish26V s v x y c l = 0 := by unfold wish26V; rw [if_neg (by rw [e1]; exact hl)]
              rw [e1, e2]
              simp (disch := omega) [go_sem, v0, v1, hx, hy, hc]
              refine ⟨.inl (by kernel_rfl), ?_⟩
              refine callK_data ql [] (by simp [go_sem, hil]) (.inl rfl) (by simp [go_sem]) (fun _ => ?_) (by simp [tabG, go_sem])
              simp (disch := omega) [go_sem]
              refine br_of (fun h => ?_) (fun h => ?_) <;> simp at h
              · simp (disch := omega) [go_sem]
              · exact absurd h hl
            · obtain ⟨b1, b2⟩ := bad (fun e => hc e.2.2.2)
              rw [b1, b2]
              simp (disch := omega) [go_sem, v0, v1, hx, hy, hc]
              exact .inl (by kernel_rfl)
          · obtain ⟨b1, b2⟩ := bad (fun e => hy e.2.2.1)
            rw [b1, b2]
            simp (disch := omega) [go_sem, v0, v1, hx, hy]
            exact .inl (by kernel_rfl)
        · obtain ⟨b1, b2⟩ := bad (fun e => hx e.2.1)
          rw [b1, b2]
          simp (disch := omega) [go_sem, v0, v1, hx]
          exact .inl (by kernel_rfl)
  · have e1 : wish26E s v x y c l = 50 := by unfold wish26E; rw [if_neg hOk]
    have e2 : wish26V s v x y c l = 0 := by unfold wish26V; rw [if_neg (by rw [e1]; decide)]
    rw [checkN_bad hOk, e1, e2]
    simp (disch := omega) [go_sem]
end Go.Proofs.YtpijmanjjhpkiaaGreatDoor

namespace Go.Proofs.YtpijmanjjhpkiaaGreatDoor
open Go.AM Go.RowKit
set_option maxRecDepth 100000

noncomputable def snextN (s : Sit) (v x y c : Int) (l : List Int) : (Int × Int × Int) × Int :=
  if wish26E s v x y c l = 0 then tallyN v x y (wish26V s v x y c l) 3 else ((0, 0, 0), wish26E s v x y c l)
set_option maxHeartbeats 1000000 in
theorem snext_spec (s : Sit) (v x y c : Int) (l : List Int) :
    FnD Tryz.prog 67 [sitV s, voteV (v, x, y), .int .i64 c, .sl 1 (ints l)] (voteE (snextN s v x y c l)) tabG := by
  have hpu := (⟨grps_pure s.groups, phas_pure s.phases, eyes_pure s.eyes, plns_pure s.plans, sets_pure s.apart, rows_pure s.between⟩ : _ ∧ _ ∧ _ ∧ _ ∧ _ ∧ _)
  obtain ⟨hp1, hp2, hp3, hp4, hp5, hp6⟩ := hpu
  have hil := ints_pure l
  have qw := Wish_spec s v x y c l
  have qt := tally_spec v x y (wish26V s v x y c l) 3
  have hsv : sitV s = .agg [.int .i64 s.id, .sl 3 (s.groups.map grpV), .sl 1 (sets s.apart), .sl 1 (rows s.between), .sl 5 (s.phases.map phaV), .sl 4 (s.eyes.map eyeV), .int .i64 s.watch, .int .i64 s.feed, .int .i64 s.heal, .int .i64 s.low, .int .i64 s.high, .sl 3 (s.plans.map plnV)] := rfl
  unfold snextN
  generalize wish26V s v x y c l = w at *
  generalize wish26E s v x y c l = e at *
  generalize tallyN v x y w 3 = t at *
  obtain ⟨⟨t1, t2, t3⟩, t4⟩ := t
  unfold voteV at qt ⊢
  rw [hsv] at qw ⊢
  refine fnD_of mixed Tryz.func67 rfl rfl (by simp [Tryz.ntmps67]) fun hwf E => ?_
  clear hwf
  simp (disch := omega) [Tryz.ntmps67, go_sem]
  refine callK_data qw [] (by simp [go_sem, hp1, hp2, hp3, hp4, hp5, hp6, hil]) (.inl rfl) (by simp [go_sem]) (fun _ => ?_) (by simp [tabG, go_sem])
  simp (disch := omega) [go_sem]
  refine br_of (fun h => ?_) (fun h => ?_) <;> simp at h
  · rw [if_neg h]
    simp (disch := omega) [go_sem, voteE, voteV]
  · rw [if_pos h]
    simp (disch := omega) [go_sem]
    refine callK_data qt [] (by simp [go_sem]) (.inl rfl) (by simp [go_sem, voteE, voteV]) (fun _ => ?_)
    simp (disch := omega) [go_sem, voteE, voteV]
end Go.Proofs.YtpijmanjjhpkiaaGreatDoor

namespace Go.Proofs.YtpijmanjjhpkiaaGreatDoor
open Go.AM Go.RowKit
set_option maxRecDepth 100000

instance (g : Grp) : Decidable (grpOk g) := by unfold grpOk; infer_instance
instance (s : Sit) (a b : Nat) : Decidable (cellOk s a b) := by unfold cellOk; infer_instance
instance (s : Sit) (p : Pha) (a : Nat) : Decidable (grpIn s p a) := by unfold grpIn; infer_instance
end Go.Proofs.YtpijmanjjhpkiaaGreatDoor

namespace Go.Proofs.YtpijmanjjhpkiaaGreatDoor
open Go.AM Go.RowKit
set_option maxRecDepth 100000

/-- The first least one. -/
theorem bestK_at (l : List (Int × Int)) : ∀ k, 1 ≤ k → k ≤ l.length → ∃ j, j < k ∧ bestK l k = l.getD j (0, 0) ∧ (∀ i, i < k → (l.getD j (0, 0)).2 ≤ (l.getD i (0, 0)).2) ∧ ∀ i, i < j → (l.getD j (0, 0)).2 < (l.getD i (0, 0)).2 := by
  intro k
  induction k with
  | zero => intro h; omega
  | succ k ih =>
    intro _ hk
    by_cases h0 : k = 0
    · subst h0
      refine ⟨0, by omega, bestK_one l, fun i hi => ?_, fun i hi => by omega⟩
      have : i = 0 := by omega
      subst this; omega
    · obtain ⟨j, h1, h2, h3, h4⟩ := ih (by omega) (by omega)
      have hs : bestK l (k + 1) = if (l.getD k (0, 0)).2 < (bestK l k).2 then l.getD k (0, 0) else bestK l k := rfl
      by_cases hlt : (l.getD k (0, 0)).2 < (bestK l k).2
      · rw [if_pos hlt] at hs
        rw [h2] at hlt
        refine ⟨k, by omega, hs, fun i hi => ?_, fun i hi => ?_⟩
        · by_cases e : i = k
          · subst e; omega
          · have := h3 i (by omega); omega
        · have := h3 i (by omega); omega
      · rw [if_neg hlt] at hs
        rw [h2] at hlt
        refine ⟨j, by omega, hs.trans h2, fun i hi => ?_, h4⟩
        by_cases e : i = k
        · subst e; omega
        · exact h3 i (by omega)

/-- What is known of the plan that is wished. -/
theorem best_law (s : Sit) (v : Nat) (c : Int) (l : List Int) (hv : v < manyN s) : ∃ n : Nat, n < manyN s ∧ bestN s v c l = n ∧
    (wst s v c l (scaleN s n c) ≤ wst s v c l (scaleN s v c) ∧ (wst s v c l (scaleN s n c) = wst s v c l (scaleN s v c) → n = v)) ∧
    ∀ i, i < manyN s → wst s v c l (scaleN s n c) ≤ wst s v c l (scaleN s i c) ∧ (wst s v c l (scaleN s i c) = wst s v c l (scaleN s n c) → i < n → n = v) := by
  have r0 : (rowsK s v c l (manyN s)).getD 0 (0, 0) = ((v : Int), wst s v c l (scaleN s v c)) := rfl
  have r1 : ∀ i, i < manyN s → (rowsK s v c l (manyN s)).getD (i + 1) (0, 0) = ((i : Int), wst s v c l (scaleN s i c)) := fun i hi => by
    unfold rowsK
    simp [List.getD_cons_succ, List.getD_eq_getElem?_getD, hi]
  obtain ⟨j, h1, h2, h3, h4⟩ := bestK_at (rowsK s v c l (manyN s)) (manyN s + 1) (by omega) (by rw [rowsK_len]; omega)
  cases j with
  | zero =>
    rw [r0] at h2 h3 h4
    refine ⟨v, hv, by unfold bestN; rw [h2], ⟨by omega, fun _ => rfl⟩, fun i hi => ⟨?_, fun _ _ => rfl⟩⟩
    have := h3 (i + 1) (by omega)
    rw [r1 i hi] at this
    exact this
  | succ n =>
    have hn : n < manyN s := by omega
    rw [r1 n hn] at h2 h3 h4
    have h40 := h4 0 (by omega)
    rw [r0] at h40
    simp only at h3 h4 h40
    refine ⟨n, hn, by unfold bestN; rw [h2], ⟨by omega, fun e => by omega⟩, fun i hi => ⟨?_, fun e hlt => ?_⟩⟩
    · have := h3 (i + 1) (by omega)
      rw [r1 i hi] at this
      exact this
    · have := h4 (i + 1) (by omega)
      rw [r1 i hi] at this
      simp only at this
      omega
/-! what is known where there is no error -/
theorem wish26_zero {s : Sit} {v x y c : Int} {l : List Int} (h : wish26E s v x y c l = 0) : SiteOk s ∧ wishOk s v x y c ∧ loadedN l = 0 := by
  unfold wish26E at h
  by_cases h1 : SiteOk s
  · rw [if_pos h1] at h
    by_cases h2 : wishOk s v x y c
    · rw [if_pos h2] at h; exact ⟨h1, h2, h⟩
    · rw [if_neg h2] at h; cases h
  · rw [if_neg h1] at h; cases h
theorem wish26_ok {s : Sit} {v x y c : Int} {l : List Int} (h1 : SiteOk s) (h2 : wishOk s v x y c) (h3 : loadedN l = 0) : wish26E s v x y c l = 0 ∧ wish26V s v x y c l = bestN s v.toNat c l := by
  have e : wish26E s v x y c l = 0 := by unfold wish26E; rw [if_pos h1, if_pos h2, h3]
  exact ⟨e, by unfold wish26V; rw [if_pos e]⟩
theorem manyN_le {s : Sit} (h : SiteOk s) : 1 ≤ manyN s ∧ manyN s ≤ 8 := by
  have h8 : s.plans.length ≤ 8 := h.shaped.2.2.2.2.2.1
  unfold manyN; split <;> omega
theorem scale_zero {s : Sit} {i c : Int} (h1 : SiteOk s) (h2 : scaleOk s i c) : scaleE s i c = 0 ∧ scaleV s i c = scaleN s i.toNat c := by
  unfold scaleE scaleV; rw [if_pos h1, if_pos h2, if_pos ⟨h1, h2⟩]; exact ⟨rfl, rfl⟩
/-! the chapter's example -/
end Go.Proofs.YtpijmanjjhpkiaaGreatDoor

namespace Go.Proofs.YtpijmanjjhpkiaaGreatDoor
open Go.AM Go.RowKit
theorem rens_bts (τ : Nat → Nat) (l : List UInt8) : rens τ (bts l) = bts l := rens_pure _ (bts_pure l)
theorem rens_ints (τ : Nat → Nat) (l : List Int) : rens τ (ints l) = ints l := rens_pure _ (ints_pure l)
theorem bts_noSls5 (l : List UInt8) : noSls (bts l) := by
  induction l with
  | nil => simp [bts, noSls]
  | cons b l ih => simp only [bts, List.map_cons, noSls] at ih ⊢; exact ⟨by simp [V.noSl], ih⟩
theorem ints_noSls (l : List Int) : noSls (ints l) := by
  induction l with
  | nil => simp [ints, noSls]
  | cons b l ih => simp only [ints, List.map_cons, noSls] at ih ⊢; exact ⟨by simp [V.noSl], ih⟩
attribute [go_sem] ints_pure grps_pure phas_pure eyes_pure plns_pure sets_pure rows_pure bts_pure sits_pure subs_pure weds_pure ints_len sets_len rows_len bts_len rens_bts rens_ints bts_noSls5 ints_noSls List.length_map
end Go.Proofs.YtpijmanjjhpkiaaGreatDoor

namespace Go.Proofs.YtpijmanjjhpkiaaGreatDoor
open Go.AM Go.RowKit
set_option maxRecDepth 100000

def bls (l : List Bool) : List V := l.map fun b => .bool b
theorem bls_len (l : List Bool) : (bls l).length = l.length := by simp [bls]
theorem bls_pure (l : List Bool) : pures (bls l) := pures_map _ (fun u => by simp [go_sem]) l
attribute [go_sem] bls_len bls_pure bonds_len bonds_pure
end Go.Proofs.YtpijmanjjhpkiaaGreatDoor

namespace Go.Proofs.YtpijmanjjhpkiaaGreatDoor
open Go.AM Go.RowKit
set_option maxRecDepth 100000

theorem ints_nil28 : ints [] = [] := rfl
end Go.Proofs.YtpijmanjjhpkiaaGreatDoor

namespace Go.Proofs.YtpijmanjjhpkiaaGreatDoor
open Go.AM Go.RowKit
set_option maxRecDepth 100000

/-! wed.Cycles by reference: its answer is new memory -/
theorem Cycles_ref (n : NetN) (l : List (Bool × Int)) (cs : List Int) : FnR Tryz.prog 65 [] [netV n, .sl 2 (bondsV l), .sl 1 (ints cs)] [⟨.arr, 3, 1, ints (cyclesL n l cs)⟩] (.tup [.obj 0 (cyclesL n l cs).length, .int .i64 (cyclesC n l cs)]) tabG := by
  have hc := bonded_spec n l
  have hcy := fun a => cycled_spec n cs a
  have hcm := fun a b c => common_spec n l cs a b c
  have hok := bonded_ok (n := n) (l := l)
  have hcok := cycled_ok (n := n) (cs := cs)
  have eC : cyclesC n l cs = if bondedC n l = 0 then cycledC n cs else bondedC n l := rfl
  have e1 : cyclesC n l cs = 0 → cyclesL n l cs = commonG (groupsN n l) cs := fun h => by unfold cyclesL; rw [if_pos h]
  have e2 : cyclesC n l cs ≠ 0 → cyclesL n l cs = [] := fun h => by unfold cyclesL; rw [if_neg h]
  have hgl := commonG_len (groupsN n l) cs
  have hnv : netV n = .agg [.sl 12 (n.sites.map sitV), .sl 2 (n.subs.map subV), .sl 4 (n.weds.map wedV), .int .i64 n.low, .int .i64 n.high, .int .i64 n.step] := rfl
  generalize cyclesC n l cs = ce at *
  generalize bondedC n l = e at *
  generalize cycledC n cs = f at *
  rw [hnv] at hc hcy hcm ⊢
  refine fnR_of mixed Tryz.func65 rfl rfl (by simp [Tryz.ntmps65]) (by simp) fun hwf E => ?_
  clear hwf
  simp (disch := omega) [Tryz.ntmps65, go_sem]
  refine callK_data hc [] (by simp [go_sem]) (.inl rfl) (by simp [go_sem]) (fun _ => ?_) (by simp [tabG, go_sem])
  simp (disch := omega) [go_sem]
  refine br_of (fun h => ?_) (fun h => ?_) <;> simp at h
  · rw [if_neg h] at eC
    rw [e2 (by omega), eC]
    simp (disch := omega) [go_sem]
    refine Le.mk [(0, none)] [] ⟨rfl, rfl, rfl⟩ ?_ ?_ ?_ <;> simp [go_sem, ints_nil28]
  · rw [if_pos h] at eC
    obtain ⟨a, b, _⟩ := hok h
    simp (disch := omega) [go_sem]
    refine callK_data (hcy a) [] (by simp [go_sem]) (.inl rfl) (by simp [go_sem]) (fun _ => ?_) (by simp [tabG, go_sem])
    simp (disch := omega) [go_sem]
    refine br_of (fun h2 => ?_) (fun h2 => ?_) <;> simp at h2
    · rw [e2 (by omega), eC]
      simp (disch := omega) [go_sem]
      refine Le.mk [(0, none)] [] ⟨rfl, rfl, rfl⟩ ?_ ?_ ?_ <;> simp [go_sem, ints_nil28]
    · obtain ⟨c1, c2⟩ := hcok h2
      rw [e1 (by omega), eC, h2, hgl]
      simp (disch := omega) [go_sem]
      refine callK_ref (hcm a b c1) [] [] [] [] ?_ ?_ ?_ (.inl ⟨rfl, .inl rfl⟩) (fun _ => ?_)
      · simp [go_sem]
      · simp [go_sem]
      · simp [go_sem]
      simp (disch := omega) [go_sem]
      refine Le.mk [(0, some 304)] [304] ⟨rfl, rfl, rfl⟩ ?_ ?_ ?_ <;> simp [go_sem]
end Go.Proofs.YtpijmanjjhpkiaaGreatDoor

namespace Go.Proofs.YtpijmanjjhpkiaaGreatDoor
open Go.AM Go.RowKit
set_option maxRecDepth 100000

structure Mas where
  cycles : List (Int × Int × Int)
  offsets : List (Int × Int × Int)
  bonds : List (Bool × Int)
  loads : List (List Int)
  splits : List (Int × Int × Int)
def masV (m : Mas) : V := .agg [.sl 3 (votesV m.cycles), .sl 3 (votesV m.offsets), .sl 2 (bondsV m.bonds), .sl 1 (rows m.loads), .sl 3 (votesV m.splits)]
attribute [go_sem] votes_pure votes_len bonds_pure bonds_len
def spanN (v : Int × Int × Int) (many : Int) : Bool := decide (0 ≤ v.1) && decide (v.1 < many) && decide (0 ≤ v.2.1) && decide (v.2.1 ≤ 1048576) && decide (0 ≤ v.2.2) && decide (v.2.2 ≤ 1048576)
theorem mspan_spec (v : Int × Int × Int) (many : Int) : FnD Tryz.prog 88 [voteV v, .int .i64 many] (.bool (spanN v many)) := by
  obtain ⟨a, b, c⟩ := v
  unfold voteV
  refine fnD_of mixed Tryz.func88 rfl rfl (by simp [Tryz.ntmps88]) fun hwf E => ?_
  clear hwf
  simp (disch := omega) [Tryz.ntmps88, go_sem]
  simp [spanN]
theorem upto {P : Nat → Prop} {k : Nat} (h : ∀ i, i < k → P i) (hk : P k) : ∀ i, i < k + 1 → P i := fun i hi => by
  by_cases e : i = k
  · subst e; exact hk
  · exact h i (by omega)
def mayC (n : NetN) (m : Mas) (i : Nat) : Prop := ∀ h : i < m.cycles.length, spanN m.cycles[i] 1048577 = true ∧ m.cycles[i].1 ∈ cycN n (cycK n + 1)
def mayO (n : NetN) (m : Mas) (i : Nat) : Prop := ∀ (h : i < n.weds.length) (h1 : i < m.offsets.length) (h2 : i < m.bonds.length), spanN m.offsets[i] (n.weds[i].offsets.length : Int) = true ∧ inM m.bonds[i].2 = true
def mayL (n : NetN) (m : Mas) (i : Nat) : Prop := ∀ (h : i < n.sites.length) (h1 : i < m.loads.length) (h2 : i < m.splits.length), m.loads[i].length = n.sites[i].phases.length ∧ loadedN m.loads[i] = 0 ∧ spanN m.splits[i] (maxI 1 (n.sites[i].plans.length : Int)) = true
def lensM (n : NetN) (m : Mas) : Prop := m.cycles.length = n.subs.length ∧ m.offsets.length = n.weds.length ∧ m.bonds.length = n.weds.length ∧ m.loads.length = n.sites.length ∧ m.splits.length = n.sites.length
def MasOk (n : NetN) (m : Mas) : Prop := lensM n m ∧ (∀ i, mayC n m i) ∧ (∀ i, mayO n m i) ∧ ∀ i, mayL n m i
noncomputable instance (n : NetN) (m : Mas) : Decidable (MasOk n m) := Classical.propDecidable _
set_option maxHeartbeats 8000000 in
theorem mmay_spec (n : NetN) (m : Mas) (hn : NetOk n) : FnD Tryz.prog 43 [netV n, masV m] (.bool (decide (MasOk n m))) tabG := by
  have hnv : netV n = .agg [.sl 12 (n.sites.map sitV), .sl 2 (n.subs.map subV), .sl 4 (n.weds.map wedV), .int .i64 n.low, .int .i64 n.high, .int .i64 n.step] := rfl
  have hmv : masV m = .agg [.sl 3 (votesV m.cycles), .sl 3 (votesV m.offsets), .sl 2 (bondsV m.bonds), .sl 1 (rows m.loads), .sl 3 (votesV m.splits)] := rfl
  obtain ⟨b1, b2⟩ : n.subs.length ≤ 6 ∧ n.sites.length ≤ 12 := ⟨hn.2.2.1.1.2, hn.2.1.1.2⟩
  have b3 : n.weds.length ≤ 8 := hn.2.2.2.1
  have qc := cycles_spec n
  rw [netN_ok hn, allCyc_ok hn] at qc
  have bad : ¬ MasOk n m → decide (MasOk n m) = false := fun h => decide_eq_false h
  rw [hnv] at qc ⊢
  rw [hmv]
  refine fnD_of mixed Tryz.func43 rfl rfl (by simp [Tryz.ntmps43]) fun hwf E => ?_
  simp (disch := omega) [go_sem] at hwf
  simp (disch := omega) [Tryz.ntmps43, go_sem]
  by_cases hl : lensM n m
  · obtain ⟨l1, l2, l3, l4, l5⟩ := hl
    have hle : ∀ {a b : Nat}, a = b → ((a : Int) == b) = true := fun h => by simp [h]
    simp (disch := omega) [go_sem, l1, l2, l3, l4, l5]
    refine callK_data qc [] (by simp [go_sem]) (.inl rfl) (by simp [go_sem]) (fun _ => ?_) (by simp [tabG, go_sem])
    simp (disch := omega) [go_sem]
    refine awz_loop mixed (fun k : Nat => ⟨[(67, .int .i64 k), (66, .int .i64 m.cycles.length), (65, .sl 3 (votesV m.cycles)), (5, .sl 1 (ints (cycN n (cycK n + 1)))), (3, .ptr 16 1 0 0), (2, .ptr 0 1 0 0)], [(16, ⟨.box, 32, 5, [masV m]⟩), (0, ⟨.box, 26, 6, [netV n]⟩)], 1024, [], 165, 0, tabG⟩) (fun k => k ≤ m.cycles.length ∧ ∀ i, i < k → mayC n m i) (fun k => m.cycles.length - k) 0 ?_ ?_ ?_
    · exact ⟨by omega, fun i hi => by omega⟩
    · refine Le.mk [(0, some 0), (16, some 16)] [0, 16] ⟨rfl, rfl, rfl⟩ ?_ ?_ ?_ <;> simp [go_sem, netV, masV]
    · rintro k ⟨hk, hno⟩
      simp (disch := omega) [go_sem, netV, masV]
      refine br_of (fun h => ?_) (fun h => ?_) <;> simp at h
      · have hv := nth_votes h
        have nocyc : ¬ mayC n m k → decide (MasOk n m) = false := fun h2 => bad fun h3 => h2 (h3.2.1 k)
        have mC : mayC n m k ↔ (spanN m.cycles[k] 1048577 = true ∧ m.cycles[k].1 ∈ cycN n (cycK n + 1)) := ⟨fun a => a h, fun a _ => a⟩
        have q1 := mspan_spec m.cycles[k] 1048577
        have q2 := contains_spec (cycN n (cycK n + 1)) m.cycles[k].1
        generalize m.cycles[k] = v at *
        obtain ⟨va, vb, vc⟩ := v
        simp only [voteV] at hv q1
        simp (disch := omega) [go_sem, hv, h]
        refine callK_bool q1 [] (by simp [go_sem]) (fun h1 => ?_) (fun h1 => ?_) <;> try simp [inN] at h1
        · simp (disch := omega) [go_sem]
          refine callK_bool q2 [] (by simp [go_sem]) (fun h2 => ?_) (fun h2 => ?_) <;> try simp [inN] at h2
          · simp (disch := omega) [go_sem]
            refine round_of (k + 1) (⟨by omega, upto hno (mC.2 ⟨h1, h2⟩)⟩) (by omega) (Le.mk [(0, some 0), (16, some 16)] [0, 16] ⟨rfl, rfl, rfl⟩ ?_ ?_ ?_) <;> simp [go_sem, netV, masV]
          · simp (disch := omega) [go_sem]
            exact fun h3 => h2 (mC.1 (h3.2.1 k)).2
        · simp (disch := omega) [go_sem]
          exact fun h3 => by have := (mC.1 (h3.2.1 k)).1; rw [h1] at this; cases this
      · simp (disch := omega) [go_sem]
        have hC : ∀ i, mayC n m i := fun i hi => hno i (by omega) hi
        refine awz_loop mixed (fun k : Nat => ⟨[(85, .int .i64 k), (84, .int .i64 n.weds.length), (83, .sl 4 (n.weds.map wedV)), (3, .ptr 16 1 0 0), (2, .ptr 0 1 0 0)], [(16, ⟨.box, 32, 5, [masV m]⟩), (0, ⟨.box, 26, 6, [netV n]⟩)], 2048, [], 165, 0, tabG⟩) (fun k => k ≤ n.weds.length ∧ ∀ i, i < k → mayO n m i) (fun k => n.weds.length - k) 0 ?_ ?_ ?_
        · exact ⟨by omega, fun i hi => by omega⟩
        · refine Le.mk [(0, some 0), (16, some 16)] [0, 16] ⟨rfl, rfl, rfl⟩ ?_ ?_ ?_ <;> simp [go_sem, netV, masV]
        · rintro k ⟨hk, hno⟩
          simp (disch := omega) [go_sem, netV, masV]
          refine br_of (fun h => ?_) (fun h => ?_) <;> simp at h
          · have hw : nth (n.weds.map wedV) k = wedV n.weds[k] := nth_map h
            have h5 : k < m.offsets.length := by omega
            have h6 : k < m.bonds.length := by omega
            have hv := nth_votes h5
            have hb := nth_bonds h6
            have mO : mayO n m k ↔ (spanN m.offsets[k] (n.weds[k].offsets.length : Int) = true ∧ inM m.bonds[k].2 = true) := ⟨fun a => a h h5 h6, fun a _ _ _ => a⟩
            have q1 := mspan_spec m.offsets[k] (n.weds[k].offsets.length : Int)
            generalize m.offsets[k] = v at *
            generalize m.bonds[k] = bo at *
            generalize n.weds[k] = w at *
            obtain ⟨va, vb, vc⟩ := v
            obtain ⟨bt, bm⟩ := bo
            simp only [voteV] at hv q1
            simp only [bondV] at hb
            simp only [wedV] at hw
            simp (disch := omega) [go_sem, hv, hb, hw, h, h5, h6]
            refine callK_bool q1 [] (by simp [go_sem]) (fun h1 => ?_) (fun h1 => ?_) <;> try simp [inN] at h1
            · simp (disch := omega) [go_sem, hb, h6]
              refine ⟨.inl (by kernel_rfl), ?_⟩
              refine br_of (fun h2 => ?_) (fun h2 => ?_)
              · simp (disch := omega) [go_sem]
                refine fun h3 => ?_
                have := (mO.1 (h3.2.2.1 k)).2
                simp [inM] at h2 this
                omega
              · simp (disch := omega) [go_sem]
                refine round_of (k + 1) (⟨by omega, upto hno (mO.2 ⟨h1, by simp [inM] at h2 ⊢; omega⟩)⟩) (by omega) (Le.mk [(0, some 0), (16, some 16)] [0, 16] ⟨rfl, rfl, rfl⟩ ?_ ?_ ?_) <;> simp [go_sem, netV, masV]
            · simp (disch := omega) [go_sem, hb, h6]
              refine ⟨.inl (by kernel_rfl), ?_⟩
              exact fun h3 => by have := (mO.1 (h3.2.2.1 k)).1; rw [h1] at this; cases this
          · simp (disch := omega) [go_sem]
            have hO : ∀ i, mayO n m i := fun i hi => hno i (by omega) hi
            refine awz_loop mixed (fun k : Nat => ⟨[(122, .int .i64 k), (121, .int .i64 n.sites.length), (120, .sl 12 (n.sites.map sitV)), (3, .ptr 16 1 0 0)], [(16, ⟨.box, 32, 5, [masV m]⟩)], 4096, [], 165, 0, tabG⟩) (fun k => k ≤ n.sites.length ∧ ∀ i, i < k → mayL n m i) (fun k => n.sites.length - k) 0 ?_ ?_ ?_
            · exact ⟨by omega, fun i hi => by omega⟩
            · refine Le.mk [(16, some 16)] [16] ⟨rfl, rfl, rfl⟩ ?_ ?_ ?_ <;> simp [go_sem, masV]
            · rintro k ⟨hk, hno⟩
              simp (disch := omega) [go_sem, masV]
              refine br_of (fun h => ?_) (fun h => ?_) <;> simp at h
              · have hw : nth (n.sites.map sitV) k = sitV n.sites[k] := nth_map h
                have h5 : k < m.loads.length := by omega
                have h6 : k < m.splits.length := by omega
                have hv := nth_votes h6
                have hb := nth_rows h5
                have mL : mayL n m k ↔ (m.loads[k].length = n.sites[k].phases.length ∧ loadedN m.loads[k] = 0 ∧ spanN m.splits[k] (maxI 1 (n.sites[k].plans.length : Int)) = true) := ⟨fun a => a h h5 h6, fun a _ _ _ => a⟩
                have q1 := mspan_spec m.splits[k] (maxI 1 (n.sites[k].plans.length : Int))
                have q2 := highest_spec m.loads[k]
                generalize m.splits[k] = v at *
                generalize m.loads[k] = lo at *
                generalize n.sites[k] = w at *
                obtain ⟨va, vb, vc⟩ := v
                simp only [voteV] at hv q1
                simp only [sitV] at hw
                simp (disch := omega) [go_sem, hv, hb, hw, h, h5, h6]
                refine callK_data q2 [] (by simp [go_sem]) (.inl rfl) (by simp [go_sem]) (fun _ => ?_)
                simp (disch := omega) [go_sem]
                simp (disch := omega) [go_sem, hb, h5, hv, h6]
                refine gbr_of (fun h1 => ?_) (fun h1 => ?_)
                · have hg : lo.length = w.phases.length ∧ loadedN lo = 0 := by simp at h1; omega
                  obtain ⟨g1, g2⟩ := hg
                  simp (disch := omega) [go_sem, g1, g2]
                  have q3 : (if (1 : Int) < w.plans.length then (w.plans.length : Int) else 1) = maxI 1 w.plans.length := rfl
                  rw [q3]
                  refine callK_bool q1 [] (by simp [go_sem]) (fun h3 => ?_) (fun h3 => ?_) <;> try simp [inN] at h3
                  · simp (disch := omega) [go_sem]
                    refine ⟨.inl (by kernel_rfl), ?_⟩
                    refine round_of (k + 1) (⟨by omega, upto hno (mL.2 ⟨g1, g2, h3⟩)⟩) (by omega) (Le.mk [(16, some 16)] [16] ⟨rfl, rfl, rfl⟩ ?_ ?_ ?_) <;> simp [go_sem, masV]
                  · simp (disch := omega) [go_sem]
                    refine ⟨.inl (by kernel_rfl), ?_⟩
                    exact fun h4 => by have := (mL.1 (h4.2.2.2 k)).2.2; rw [h3] at this; cases this
                · have hg : ¬ (lo.length = w.phases.length ∧ loadedN lo = 0) := by
                    simp at h1
                    omega
                  simp (disch := omega) [go_sem]
                  have hg2 : ¬ (lo.length : Int) = w.phases.length ∨ ¬ loadedN lo = 0 := by omega
                  refine ⟨fun a b => hg ⟨by omega, b⟩, hg2, ?_⟩
                  refine ⟨.inl (by kernel_rfl), ?_⟩
                  exact fun h4 => hg ⟨(mL.1 (h4.2.2.2 k)).1, (mL.1 (h4.2.2.2 k)).2.1⟩
              · simp (disch := omega) [go_sem]
                exact ⟨⟨l1, l2, l3, l4, l5⟩, hC, hO, fun i hi => hno i (by omega) hi⟩
  · rw [bad (fun h => hl h.1)]
    refine br_of (fun h => ?_) (fun h => ?_)
    · simp (disch := omega) [go_sem]
    · exact absurd h (by
      intro h
      apply hl
      unfold lensM
      simp at h
      omega)
end Go.Proofs.YtpijmanjjhpkiaaGreatDoor

namespace Go.Proofs.YtpijmanjjhpkiaaGreatDoor
open Go.AM Go.RowKit
set_option maxRecDepth 100000

noncomputable def masC (n : NetN) (m : Mas) : Int := if NetOk n then if MasOk n m then 0 else 8 else 60
section
variable {n : NetN} {m : Mas}
theorem masC_net (h : ¬ NetOk n) : masC n m = 60 := by unfold masC; rw [if_neg h]
theorem masC_bad (h : NetOk n) (h2 : ¬ MasOk n m) : masC n m = 8 := by unfold masC; rw [if_pos h, if_neg h2]
theorem masC_ok (h : NetOk n) (h2 : MasOk n m) : masC n m = 0 := by unfold masC; rw [if_pos h, if_pos h2]
end
theorem masV_pure (m : Mas) : (masV m).pure := by simp [masV, go_sem]
set_option maxHeartbeats 2000000 in
theorem mcheck_spec (n : NetN) (m : Mas) : FnD Tryz.prog 20 [netV n, masV m] (.int .i64 (masC n m)) tabG := by
  have hnv : netV n = .agg [.sl 12 (n.sites.map sitV), .sl 2 (n.subs.map subV), .sl 4 (n.weds.map wedV), .int .i64 n.low, .int .i64 n.high, .int .i64 n.step] := rfl
  have hmv : masV m = .agg [.sl 3 (votesV m.cycles), .sl 3 (votesV m.offsets), .sl 2 (bondsV m.bonds), .sl 1 (rows m.loads), .sl 3 (votesV m.splits)] := rfl
  have qc := ncheck_spec n
  have qm := mmay_spec n m
  rw [hnv, hmv] at qm ⊢
  rw [hnv] at qc
  refine fnD_of mixed Tryz.func20 rfl rfl (by simp [Tryz.ntmps20]) fun hwf E => ?_
  simp (disch := omega) [go_sem] at hwf
  simp (disch := omega) [Tryz.ntmps20, go_sem]
  refine callK_data qc [] (by simp [go_sem]) (.inl rfl) (by simp [go_sem]) (fun _ => ?_) (by simp [tabG, go_sem])
  simp (disch := omega) [go_sem]
  by_cases hk : NetOk n
  · have qm := qm hk
    rw [netN_ok hk]
    simp (disch := omega) [go_sem]
    by_cases hm : MasOk n m
    · rw [decide_eq_true hm] at qm
      rw [masC_ok hk hm]
      refine callK_data qm [] (by simp [go_sem]) (.inl rfl) (by simp [go_sem]) (fun _ => ?_) (by simp [tabG, go_sem])
      simp (disch := omega) [go_sem]
    · rw [decide_eq_false hm] at qm
      rw [masC_bad hk hm]
      refine callK_data qm [] (by simp [go_sem]) (.inl rfl) (by simp [go_sem]) (fun _ => ?_) (by simp [tabG, go_sem])
      simp (disch := omega) [go_sem]
  · rw [netN_bad hk, masC_net hk]
    simp (disch := omega) [go_sem]
end Go.Proofs.YtpijmanjjhpkiaaGreatDoor

namespace Go.Proofs.YtpijmanjjhpkiaaGreatDoor
open Go.AM Go.RowKit
set_option maxRecDepth 100000

/-! slices.Clone: its answer is new memory -/
theorem clone_votes (l : List (Int × Int × Int)) (hb : l.length ≤ 1048576) : FnR Tryz.prog 56 [] [.sl 3 (votesV l)] [⟨.arr, 50, 3, votesV l⟩] (.obj 0 l.length) := by
  have hp := votes_pure l
  refine fnR_split (fun hx => ?_) ?_
  · have hl : l = [] := by simpa [votesV] using hx
    subst hl
    refine fnR_of mixed Tryz.func56 rfl rfl (by simp [Tryz.ntmps56]) (by simp) fun hwf E => ?_
    simp (disch := omega) [Tryz.ntmps56, go_sem]
    refine Le.mk [(0, none)] [] ⟨rfl, rfl, rfl⟩ ?_ ?_ ?_ <;> simp [go_sem, votesV]
  · refine fnR_of mixed Tryz.func56 rfl rfl (by simp [Tryz.ntmps56]) (by simp) fun hwf E => ?_
    simp (disch := omega) [go_sem, votes_len] at hwf
    simp (disch := omega) [Tryz.ntmps56, go_sem, votes_len]
    refine ⟨⟨by omega, by omega⟩, Le.mk [(0, some 64)] [64] ⟨rfl, rfl, rfl⟩ ?_ ?_ ?_⟩ <;> simp [go_sem, hp]
theorem clone_bonds (l : List (Bool × Int)) (hb : l.length ≤ 1048576) : FnR Tryz.prog 57 [] [.sl 2 (bondsV l)] [⟨.arr, 103, 2, bondsV l⟩] (.obj 0 l.length) := by
  have hp := bonds_pure l
  refine fnR_split (fun hx => ?_) ?_
  · have hl : l = [] := by simpa [bondsV] using hx
    subst hl
    refine fnR_of mixed Tryz.func57 rfl rfl (by simp [Tryz.ntmps57]) (by simp) fun hwf E => ?_
    simp (disch := omega) [Tryz.ntmps57, go_sem]
    refine Le.mk [(0, none)] [] ⟨rfl, rfl, rfl⟩ ?_ ?_ ?_ <;> simp [go_sem, bondsV]
  · refine fnR_of mixed Tryz.func57 rfl rfl (by simp [Tryz.ntmps57]) (by simp) fun hwf E => ?_
    simp (disch := omega) [go_sem, bonds_len] at hwf
    simp (disch := omega) [Tryz.ntmps57, go_sem, bonds_len]
    refine ⟨⟨by omega, by omega⟩, Le.mk [(0, some 64)] [64] ⟨rfl, rfl, rfl⟩ ?_ ?_ ?_⟩ <;> simp [go_sem, hp]
theorem clone_rows64 (l : List (List Int)) (hb : l.length ≤ 1048576) : FnR Tryz.prog 58 [] [.sl 1 (rows l)] [⟨.arr, 46, 1, rows l⟩] (.obj 0 l.length) := by
  have hp := rows_pure l
  refine fnR_split (fun hx => ?_) ?_
  · have hl : l = [] := by simpa [rows] using hx
    subst hl
    refine fnR_of mixed Tryz.func58 rfl rfl (by simp [Tryz.ntmps58]) (by simp) fun hwf E => ?_
    simp (disch := omega) [Tryz.ntmps58, go_sem]
    refine Le.mk [(0, none)] [] ⟨rfl, rfl, rfl⟩ ?_ ?_ ?_ <;> simp [go_sem, rows]
  · refine fnR_of mixed Tryz.func58 rfl rfl (by simp [Tryz.ntmps58]) (by simp) fun hwf E => ?_
    simp (disch := omega) [go_sem, rows_len] at hwf
    simp (disch := omega) [Tryz.ntmps58, go_sem, rows_len]
    refine ⟨⟨by omega, by omega⟩, Le.mk [(0, some 64)] [64] ⟨rfl, rfl, rfl⟩ ?_ ?_ ?_⟩ <;> simp [go_sem, hp]
theorem clone_i64 (l : List Int) (hb : l.length ≤ 1048576) : FnR Tryz.prog 59 [] [.sl 1 (ints l)] [⟨.arr, 2, 1, ints l⟩] (.obj 0 l.length) := by
  have hp := ints_pure l
  refine fnR_split (fun hx => ?_) ?_
  · have hl : l = [] := by simpa [ints] using hx
    subst hl
    refine fnR_of mixed Tryz.func59 rfl rfl (by simp [Tryz.ntmps59]) (by simp) fun hwf E => ?_
    simp (disch := omega) [Tryz.ntmps59, go_sem]
    refine Le.mk [(0, none)] [] ⟨rfl, rfl, rfl⟩ ?_ ?_ ?_ <;> simp [go_sem, ints]
  · refine fnR_of mixed Tryz.func59 rfl rfl (by simp [Tryz.ntmps59]) (by simp) fun hwf E => ?_
    simp (disch := omega) [go_sem, ints_len] at hwf
    simp (disch := omega) [Tryz.ntmps59, go_sem, ints_len]
    refine ⟨⟨by omega, by omega⟩, Le.mk [(0, some 64)] [64] ⟨rfl, rfl, rfl⟩ ?_ ?_ ?_⟩ <;> simp [go_sem, hp]
end Go.Proofs.YtpijmanjjhpkiaaGreatDoor

namespace Go.Proofs.YtpijmanjjhpkiaaGreatDoor
open Go.AM Go.RowKit
set_option maxRecDepth 100000

theorem rens_votes (τ : Nat → Nat) (l : List (Int × Int × Int)) : rens τ (votesV l) = votesV l := rens_pure _ (votes_pure l)
theorem rens_bonds (τ : Nat → Nat) (l : List (Bool × Int)) : rens τ (bondsV l) = bondsV l := rens_pure _ (bonds_pure l)
theorem rens_rows (τ : Nat → Nat) (l : List (List Int)) : rens τ (rows l) = rows l := rens_pure _ (rows_pure l)
attribute [go_sem] rens_votes rens_bonds rens_rows
theorem vsLe_set {hp : Heap} {σ : Nat → Option (Option Nat)} {B : Nat → Prop} {v w : V} (hv : vLe hp σ B v w) : ∀ {xs ys : List V} {i : Nat}, vsLe hp σ B xs ys → vsLe hp σ B (xs.set i v) (ys.set i w)
  | [], ys, i, h => by simp only [vsLe] at h; subst h; simp [vsLe]
  | x :: xs, ys, i, h => by
    simp only [vsLe] at h
    obtain ⟨y, r, rfl, h1, h2⟩ := h
    cases i with
    | zero => exact ⟨w, r, rfl, hv, h2⟩
    | succ i => exact ⟨y, r.set i w, rfl, h1, vsLe_set hv h2⟩
theorem set_nth : ∀ {xs : List V} {k : Nat} {v : V}, nth xs k = v → k < xs.length → xs.set k v = xs
  | [], k, v, h, h2 => by simp at h2
  | x :: xs, 0, v, h, h2 => by simp only [nth] at h; subst h; rfl
  | x :: xs, k + 1, v, h, h2 => by
    rw [List.set_cons_succ, set_nth (by simpa only [nth] using h) (by simpa using h2)]
/-- The rows, of which row t lies in memory of its own. -/
def twR (m : Mas) (t k i : Nat) : List V := if t < k then (rows m.loads).set t (.obj i (m.loads.getD t []).length) else rows m.loads
theorem twR_len (m : Mas) (t k i : Nat) : (twR m t k i).length = m.loads.length := by unfold twR; split <;> simp [rows_len]
def twS (m : Mas) (sl : List (Nat × V)) (hp : List (Nat × AM.Obj)) (t k nx : Nat) : St :=
  ⟨sl ++ [(26, .int .i64 m.loads.length), (2, .ptr 32 1 0 0), (1, .ptr 16 1 0 0)], hp ++ [(272, ⟨.arr, 50, 3, votesV m.splits⟩), (224, ⟨.arr, 46, 1, twR m t k 1008⟩), (176, ⟨.arr, 103, 2, bondsV m.bonds⟩), (128, ⟨.arr, 50, 3, votesV m.offsets⟩), (80, ⟨.arr, 50, 3, votesV m.cycles⟩), (32, ⟨.box, 32, 5, [.agg [.nilS, .nilS, .nilS, .nilS, .nilS]]⟩), (16, ⟨.box, 32, 5, [.agg [.obj 80 m.cycles.length, .obj 128 m.offsets.length, .obj 176 m.bonds.length, .obj 224 m.loads.length, .obj 272 m.splits.length]]⟩)], nx, [], 42, 0, []⟩
def twH (m : Mas) (t k : Nat) : List (Nat × AM.Obj) := if t < k then [(1008, ⟨.arr, 2, 1, ints (m.loads.getD t [])⟩)] else []
theorem twH_lo {m : Mas} {t k : Nat} (h : ¬ t < k) : twH m t k = [] := if_neg h
theorem twH_hi {m : Mas} {t k : Nat} (h : t < k) : twH m t k = [(1008, ⟨.arr, 2, 1, ints (m.loads.getD t [])⟩)] := if_pos h
theorem twR_lo {m : Mas} {t k i : Nat} (h : ¬ t < k) : twR m t k i = rows m.loads := if_neg h
theorem twR_hi {m : Mas} {t k i : Nat} (h : t < k) : twR m t k i = (rows m.loads).set t (.obj i (m.loads.getD t []).length) := if_pos h
set_option maxHeartbeats 8000000 in
theorem twin_ref (m : Mas) (t : Nat) (ht : t < m.loads.length) (b1 : m.cycles.length ≤ 1048576) (b2 : m.offsets.length ≤ 1048576) (b3 : m.bonds.length ≤ 1048576) (b4 : m.loads.length ≤ 1048576) (b5 : m.splits.length ≤ 1048576) (b6 : ∀ r ∈ m.loads, r.length ≤ 1048576) :
    FnR Tryz.prog 27 [] [masV m] [⟨.arr, 50, 3, votesV m.cycles⟩, ⟨.arr, 50, 3, votesV m.offsets⟩, ⟨.arr, 103, 2, bondsV m.bonds⟩, ⟨.arr, 46, 1, (rows m.loads).set t (.obj 5 m.loads[t].length)⟩, ⟨.arr, 50, 3, votesV m.splits⟩, ⟨.arr, 2, 1, ints m.loads[t]⟩]
      (.agg [.obj 0 m.cycles.length, .obj 1 m.offsets.length, .obj 2 m.bonds.length, .obj 3 m.loads.length, .obj 4 m.splits.length]) := by
  have hmv : masV m = .agg [.sl 3 (votesV m.cycles), .sl 3 (votesV m.offsets), .sl 2 (bondsV m.bonds), .sl 1 (rows m.loads), .sl 3 (votesV m.splits)] := rfl
  have q1 := clone_votes m.cycles b1
  have q2 := clone_votes m.offsets b2
  have q3 := clone_bonds m.bonds b3
  have q4 := clone_rows64 m.loads b4
  have q5 := clone_votes m.splits b5
  rw [hmv]
  refine fnR_of mixed Tryz.func27 rfl rfl (by simp [Tryz.ntmps27]) (by simp) fun hwf E => ?_
  clear hwf
  simp (disch := omega) [Tryz.ntmps27, go_sem]
  refine callK_ref q1 [] [] [] [] ?_ ?_ ?_ (.inl ⟨rfl, .inl rfl⟩) (fun _ => ?_)
  · simp [go_sem]
  · simp [go_sem]
  · simp [go_sem]
  simp (disch := omega) [go_sem]
  refine callK_ref q2 [] [] [] [] ?_ ?_ ?_ (.inl ⟨rfl, .inl rfl⟩) (fun _ => ?_)
  · simp [go_sem]
  · simp [go_sem]
  · simp [go_sem]
  simp (disch := omega) [go_sem]
  refine callK_ref q3 [] [] [] [] ?_ ?_ ?_ (.inl ⟨rfl, .inl rfl⟩) (fun _ => ?_)
  · simp [go_sem]
  · simp [go_sem]
  · simp [go_sem]
  simp (disch := omega) [go_sem]
  refine callK_ref q4 [] [] [] [] ?_ ?_ ?_ (.inl ⟨rfl, .inl rfl⟩) (fun _ => ?_)
  · simp [go_sem]
  · simp [go_sem]
  · simp [go_sem]
  simp (disch := omega) [go_sem]
  refine callK_ref q5 [] [] [] [] ?_ ?_ ?_ (.inl ⟨rfl, .inl rfl⟩) (fun _ => ?_)
  · simp [go_sem]
  · simp [go_sem]
  · simp [go_sem]
  simp (disch := omega) [go_sem]
  refine ⟨.inl (by kernel_rfl), ?_⟩
  refine awz_loop mixed (fun k : Nat => twS m [(27, .int .i64 k)] (twH m t k) t k 1024) (fun k => k ≤ m.loads.length) (fun k => m.loads.length - k) 0 ?_ ?_ ?_
  · omega
  · rw [twH_lo (by omega : ¬ t < 0)]
    refine Le.mk [(16, some 16), (32, some 32), (80, some 80), (128, some 128), (176, some 176), (224, some 224), (272, some 272)] [16, 32, 80, 128, 176, 224, 272] ⟨rfl, rfl, rfl⟩ ?_ ?_ ?_ <;> simp [go_sem, twS, twR]
  · intro k hk
    by_cases hlt : t < k
    · rw [twH_hi hlt]
      have e0 := twR_hi (m := m) (i := 1008) hlt
      simp (disch := omega) [go_sem, twS, e0]
      refine br_of (fun h => ?_) (fun h => ?_) <;> simp at h
      · have q6 := clone_i64 m.loads[k] (b6 _ (List.getElem_mem h))
        have hn : nth ((rows m.loads).set t (.obj 1008 m.loads[t].length)) k = .sl 1 (ints m.loads[k]) := by rw [nth_set, if_neg (by omega), nth_rows h]
        simp (disch := omega) [go_sem, h, hn]
        refine callK_ref q6 [] [] [] [] ?_ ?_ ?_ (.inl ⟨rfl, .inl rfl⟩) (fun _ => ?_)
        · simp [go_sem, h, hn]
        · simp [go_sem, h, hn]
        · simp [go_sem, h, hn]
        simp (disch := omega) [go_sem, h, hn]
        refine ⟨.inl (by kernel_rfl), ?_⟩
        have f1 := twH_hi (m := m) (show t < k + 1 by omega)
        have f2 := twR_hi (m := m) (i := 1008) (show t < k + 1 by omega)
        have hX := set_nth hn (by simp [rows_len, h])
        refine round_of (k + 1) (by omega) (by omega) (Le.mk [(16, some 16), (32, some 32), (80, some 80), (128, some 128), (176, some 176), (224, some 224), (272, some 272), (1008, some 1008)] [16, 32, 80, 128, 176, 224, 272, 1008] ⟨rfl, rfl, rfl⟩ ?_ ?_ ?_) <;> simp [go_sem, twS, f1, f2, ht, vsLe_self, ints_pure]
        rw [← hX]
        have hX2 : (((rows m.loads).set t (V.obj 1008 m.loads[t].length)).set k (V.sl 1 (ints m.loads[k]))).set k (V.obj 1200 m.loads[k].length) = ((rows m.loads).set t (V.obj 1008 m.loads[t].length)).set k (V.obj 1200 m.loads[k].length) := by rw [List.set_set]
        try rw [hX2]
        refine vsLe_set (by simp [go_sem, vsLe_self, ints_pure]) (vsLe_set (by simp [go_sem]) (vsLe_self _ (rows_pure _)))
      · have hkk : k = m.loads.length := by omega
        simp (disch := omega) [go_sem]
        refine Le.mk [(0, some 80), (1, some 128), (2, some 176), (3, some 224), (4, some 272), (5, some 1008)] [80, 128, 176, 224, 272, 1008] ⟨rfl, rfl, rfl⟩ ?_ ?_ ?_ <;> simp [go_sem, vsLe_self, ints_pure]
        exact vsLe_set (by simp [go_sem]) (vsLe_self _ (rows_pure _))
    · rw [twH_lo hlt]
      have e0 := twR_lo (m := m) (i := 1008) hlt
      simp (disch := omega) [go_sem, twS, e0]
      refine br_of (fun h => ?_) (fun h => ?_) <;> simp at h
      · have q6 := clone_i64 m.loads[k] (b6 _ (List.getElem_mem h))
        have hn := nth_rows h
        simp (disch := omega) [go_sem, h, hn]
        refine callK_ref q6 [] [] [] [] ?_ ?_ ?_ (.inl ⟨rfl, .inl rfl⟩) (fun _ => ?_)
        · simp [go_sem, h, hn]
        · simp [go_sem, h, hn]
        · simp [go_sem, h, hn]
        simp (disch := omega) [go_sem, h, hn]
        refine ⟨.inl (by kernel_rfl), ?_⟩
        by_cases ek : k = t
        · subst ek
          have f1 := twH_hi (m := m) (show k < k + 1 by omega)
          have f2 := twR_hi (m := m) (i := 1008) (show k < k + 1 by omega)
          refine round_of (k + 1) (by omega) (by omega) (Le.mk [(16, some 16), (32, some 32), (80, some 80), (128, some 128), (176, some 176), (224, some 224), (272, some 272), (1008, some 1200)] [16, 32, 80, 128, 176, 224, 272, 1200] ⟨rfl, rfl, rfl⟩ ?_ ?_ ?_) <;> simp [go_sem, twS, f1, f2, h, vsLe_self, ints_pure]
          refine vsLe_set (by simp [go_sem, h]) (vsLe_self _ (rows_pure _))
        · have f1 := twH_lo (m := m) (show ¬ t < k + 1 by omega)
          have f2 := twR_lo (m := m) (i := 1008) (show ¬ t < k + 1 by omega)
          refine round_of (k + 1) (by omega) (by omega) (Le.mk [(16, some 16), (32, some 32), (80, some 80), (128, some 128), (176, some 176), (224, some 224), (272, some 272)] [16, 32, 80, 128, 176, 224, 272] ⟨rfl, rfl, rfl⟩ ?_ ?_ ?_) <;> simp [go_sem, twS, f1, f2, vsLe_self, ints_pure]
          have hX := set_nth hn (by simp [rows_len, h])
          conv => arg 5; rw [← hX]
          exact vsLe_set (by simp [go_sem, vsLe_self, ints_pure]) (vsLe_self _ (rows_pure _))
      · omega
end Go.Proofs.YtpijmanjjhpkiaaGreatDoor

namespace Go.Proofs.YtpijmanjjhpkiaaGreatDoor
open Go.AM Go.RowKit
set_option maxRecDepth 100000

/-- A number of a load that may be is not stopped. -/
theorem fstop_spec (x : Int) (h : 0 ≤ x ∧ x ≤ 65536) : FnD Tryz.prog 121 [.int .i64 x] (.int .i64 x) := by
  refine fnD_of mixed Tryz.func121 rfl rfl (by simp [Tryz.ntmps121]) fun hwf E => ?_
  clear hwf
  simp (disch := omega) [Tryz.ntmps121, go_sem]
  rw [if_neg (by omega : ¬ x < -70368744177664), if_neg (by omega)]
theorem fclamp_spec (x : Int) (h : 0 ≤ x ∧ x ≤ 65536) : FnD Tryz.prog 122 [.int .i64 x, .int .i64 0, .int .i64 65536] (.int .i64 x) := by
  refine fnD_of mixed Tryz.func122 rfl rfl (by simp [Tryz.ntmps122]) fun hwf E => ?_
  clear hwf
  simp (disch := omega) [Tryz.ntmps122, go_sem]
  refine br_of (fun h1 => ?_) (fun h1 => ?_) <;> simp at h1
  · omega
  · simp (disch := omega) [go_sem]
    refine br_of (fun h2 => ?_) (fun h2 => ?_) <;> simp at h2
    · omega
    · simp (disch := omega) [go_sem]
theorem fsize_spec (x : Int) (h : -65536 ≤ x ∧ x ≤ 65536) : FnD Tryz.prog 123 [.int .i64 x] (.tup [.int .u64 x.natAbs, .bool (decide (x < 0))]) := by
  refine fnD_of mixed Tryz.func123 rfl rfl (by simp [Tryz.ntmps123]) fun hwf E => ?_
  clear hwf
  simp (disch := omega) [Tryz.ntmps123, go_sem]
  refine br_of (fun h1 => ?_) (fun h1 => ?_) <;> simp at h1
  · simp (disch := omega) [go_sem, h1]
    omega
  · simp (disch := omega) [go_sem, h1]
    omega
theorem and64 (a : Nat) (h : a < 4294967296) : bitsV .and .u64 (a : Int) 4294967295 = some (.int .u64 (a : Int)) := by
  have h2 : (BitVec.ofInt 64 (a : Int) &&& BitVec.ofInt 64 4294967295).toNat = a := by
    simp [BitVec.toNat_and]
    rw [Nat.mod_eq_of_lt (by omega), show (4294967295 : Nat) = 2 ^ 32 - 1 from rfl, Nat.and_two_pow_sub_one_eq_mod, Nat.mod_eq_of_lt (by omega)]
  simp only [bitsV]
  rw [show IntKind.u64.bits = 64 from rfl, h2]
  simp [IntKind.wrap, IntKind.bits, IntKind.signed]
  omega
theorem fdiv_lo {a : Nat} (h : a < 4294967296) : (a : Int).fdiv 4294967296 = 0 := by
  rw [Int.fdiv_eq_ediv_of_nonneg _ (by omega)]
  omega
theorem wr64 {a : Nat} (h : a < 4294967296) : IntKind.u64.wrap (a : Int) = a := by
  simp [IntKind.wrap, IntKind.bits, IntKind.signed]
  omega
theorem mul64_spec (x y : Nat) (h : x ≤ 65536) (h2 : y ≤ 16384) : FnD Tryz.prog 124 [.int .u64 x, .int .u64 y] (.tup [.int .u64 0, .int .u64 (x * y : Nat)]) := by
  have a1 := and64 x (by omega)
  have a2 := and64 y (by omega)
  have b1 := fdiv_lo (a := x) (by omega)
  have b2 := fdiv_lo (a := y) (by omega)
  have hp : x * y ≤ 65536 * 16384 := Nat.mul_le_mul h h2
  have b3 := fdiv_lo (a := x * y) (by omega)
  have b4 := wr64 (a := x * y) (by omega)
  have b5 := wr64 (a := 0) (by omega)
  have a3 := and64 0 (by omega)
  rw [Int.natCast_mul] at b3 b4
  have b5 : IntKind.u64.wrap 0 = 0 := rfl
  have a3 : bitsV .and .u64 0 4294967295 = some (.int .u64 0) := a3
  refine fnD_of mixed Tryz.func124 rfl rfl (by simp [Tryz.ntmps124]) fun hwf E => ?_
  clear hwf
  simp (disch := omega) [Tryz.ntmps124, go_sem]
  simp (disch := omega) [go_sem, a1, a2, a3, b1, b2, b3, b4, b5]
end Go.Proofs.YtpijmanjjhpkiaaGreatDoor

namespace Go.Proofs.YtpijmanjjhpkiaaGreatDoor
open Go.AM Go.RowKit
set_option maxRecDepth 100000

theorem add64_ext (x : Nat) (h : x < 4611686018427387904) : FnX Tryz.prog 125 [.int .u64 x, .int .u64 65535, .int .u64 0] (.tup [.int .u64 ((x : Int) + 65535), .int .u64 0]) := by
  refine ⟨by simp [noRefs, V.noRef], fun w O cargs hc => ?_⟩
  have hc2 : cargs = #[.int .u64 x, .int .u64 65535, .int .u64 0] := by
    simp only [RVl, RV] at hc
    obtain ⟨u, r, h1, ⟨rfl, _⟩, u2, r2, h2, ⟨rfl, _⟩, u3, r3, h3, ⟨rfl, _⟩, h4⟩ := hc
    subst h4; subst h3; subst h2
    exact Array.toList_inj.1 (by simpa using h1)
  subst hc2
  refine ⟨_, by rw [run_callFunc_extern Tryz.func125 rfl rfl (by kernel_rfl) (e := add64Entry) (by kernel_rfl), run_add64 _ _ _ (by omega) (by omega) (by omega) (by omega)]; rfl, ?_⟩
  have e1 : ((x : Int) + 65535 + 0) % 18446744073709551616 = x + 65535 := by omega
  have e2 : ((x : Int) + 65535 + 0) / 18446744073709551616 = 0 := by omega
  rw [e1, e2]
  simp [RV, RVl, IntKind.has, IntKind.min, IntKind.max, IntKind.signed, IntKind.bits]
  omega
theorem or64 (a : Nat) (h : a < 4294967296) : bitsV .or .u64 0 (a : Int) = some (.int .u64 (a : Int)) := by
  have h2 : (BitVec.ofInt 64 0 ||| BitVec.ofInt 64 (a : Int)).toNat = a := by
    simp [BitVec.toNat_or]
    omega
  simp only [bitsV]
  rw [show IntKind.u64.bits = 64 from rfl, h2]
  simp [IntKind.wrap, IntKind.bits, IntKind.signed]
  omega
def mixN (a b : Int) : Int := a + (b - a) / 4
theorem mixN_ok {a b : Int} (ha : 0 ≤ a ∧ a ≤ 65536) (hb : 0 ≤ b ∧ b ≤ 65536) : 0 ≤ mixN a b ∧ mixN a b ≤ 65536 := by unfold mixN; omega
theorem fdiv16 {a : Int} (h : 0 ≤ a) : a.fdiv 65536 = a / 65536 := Int.fdiv_eq_ediv_of_nonneg _ (by omega)
theorem mix_spec (a b : Int) (ha : 0 ≤ a ∧ a ≤ 65536) (hb : 0 ≤ b ∧ b ≤ 65536) : FnD Tryz.prog 72 [.int .i64 a, .int .i64 b, .int .i64 16384] (.int .i64 (mixN a b)) := by
  have q1 := fstop_spec a ha
  have q2 := fstop_spec b hb
  have q3 := fclamp_spec 16384 (by omega)
  have q4 := fsize_spec (b - a) (by omega)
  have q5 := mul64_spec (b - a).natAbs 16384 (by omega) (by omega)
  obtain ⟨m, hm⟩ : ∃ m : Nat, m = (b - a).natAbs * 16384 := ⟨_, rfl⟩
  rw [← hm] at q5
  have q6 := add64_ext m (by omega)
  refine fnD_of mixed Tryz.func72 rfl rfl (by simp [Tryz.ntmps72]) fun hwf E => ?_
  clear hwf
  simp (disch := omega) [Tryz.ntmps72, go_sem]
  refine callK_data q1 [] (by simp [go_sem]) (.inl rfl) (by simp [go_sem]) (fun _ => ?_)
  simp (disch := omega) [go_sem]
  refine callK_data q2 [] (by simp [go_sem]) (.inl rfl) (by simp [go_sem]) (fun _ => ?_)
  simp (disch := omega) [go_sem]
  refine callK_data q3 [] (by simp [go_sem]) (.inl rfl) (by simp [go_sem]) (fun _ => ?_)
  simp (disch := omega) [go_sem]
  refine callK_data q4 [] (by simp [go_sem]) (.inl rfl) (by simp [go_sem]) (fun _ => ?_)
  simp (disch := omega) [go_sem]
  refine callK_data q5 [] (by simp [go_sem]) (.inl rfl) (by simp [go_sem]) (fun _ => ?_)
  simp (disch := omega) [go_sem]
  refine br_of (fun h1 => ?_) (fun h1 => ?_) <;> simp at h1
  · obtain ⟨c, hc⟩ : ∃ c : Nat, c = (m + 65535) / 65536 := ⟨_, rfl⟩
    have e2 : ((m : Int) + 65535).fdiv 65536 = (c : Int) := by rw [fdiv16 (by omega)]; omega
    have o2 := or64 c (by omega)
    have hv : a - (c : Int) = mixN a b := by unfold mixN; omega
    simp (disch := omega) [go_sem]
    refine callK_ext q6 [] (by simp [go_sem]) (fun _ => ?_)
    simp (disch := omega) [go_sem, e2, o2, hv]
  · obtain ⟨c, hc⟩ : ∃ c : Nat, c = m / 65536 := ⟨_, rfl⟩
    have e1 : (m : Int).fdiv 65536 = (c : Int) := by rw [fdiv16 (by omega)]; omega
    have o1 := or64 c (by omega)
    have hv : a + (c : Int) = mixN a b := by unfold mixN; omega
    simp (disch := omega) [go_sem, e1, o1, hv]
theorem smooth_spec (a b : Int) : FnD Tryz.prog 35 [.int .i64 a, .int .i64 b, .int .i64 16384] (.tup [.int .i64 (if fixI a = true ∧ fixI b = true then mixN a b else 0), .int .i64 (if fixI a = true ∧ fixI b = true then 0 else 2)]) := by
  have q1 := lfixed_spec a
  have q2 := lfixed_spec b
  have q3 := lfixed_spec 16384
  refine fnD_of mixed Tryz.func35 rfl rfl (by simp [Tryz.ntmps35]) fun hwf E => ?_
  clear hwf
  simp (disch := omega) [Tryz.ntmps35, go_sem]
  refine callK_bool q1 [] (by simp [go_sem]) (fun h1 => ?_) (fun h1 => ?_) <;> try simp [inN] at h1
  · simp (disch := omega) [go_sem]
    refine callK_bool q2 [] (by simp [go_sem]) (fun h2 => ?_) (fun h2 => ?_) <;> try simp [inN] at h2
    · simp (disch := omega) [go_sem]
      refine callK_bool q3 [] (by simp [go_sem]) (fun h3 => ?_) (fun h3 => ?_) <;> try simp [inN] at h3
      · simp (disch := omega) [go_sem]
        have q4 := mix_spec a b (by simp [fixI] at h1; omega) (by simp [fixI] at h2; omega)
        refine callK_data q4 [] (by simp [go_sem]) (.inl rfl) (by simp [go_sem]) (fun _ => ?_)
        simp (disch := omega) [go_sem]
        simp (disch := omega) [go_sem, h1, h2]
      · simp [fixI] at h3
    · simp (disch := omega) [go_sem, h1, h2]
  · simp (disch := omega) [go_sem, h1]
end Go.Proofs.YtpijmanjjhpkiaaGreatDoor

namespace Go.Proofs.YtpijmanjjhpkiaaGreatDoor
open Go.AM Go.RowKit
set_option maxRecDepth 100000

def zeroM : Mas := ⟨[], [], [], [], []⟩
/-- A row, of which the first k are mixed. -/
def hrK (a b : List Int) : Nat → List Int
  | 0 => a
  | k + 1 => (hrK a b k).set k (mixN (a.getD k 0) (b.getD k 0))
theorem hrK_len (a b : List Int) : ∀ k, (hrK a b k).length = a.length
  | 0 => rfl
  | k + 1 => by simp [hrK, hrK_len a b k]
theorem hrK_get (a b : List Int) : ∀ k j, j < a.length → (hrK a b k).getD j 0 = if j < k then mixN (a.getD j 0) (b.getD j 0) else a.getD j 0
  | 0, j, h => by simp [hrK]
  | k + 1, j, h => by
    have ih := hrK_get a b k j h
    have hl := hrK_len a b k
    simp only [hrK, List.getD_eq_getElem?_getD] at ih ⊢
    rw [List.getElem?_set]
    by_cases e : k = j
    · subst e
      rw [if_pos rfl, if_pos (by omega), if_pos (by omega)]; rfl
    · rw [if_neg e, ih]
      by_cases h2 : j < k
      · rw [if_pos h2, if_pos (by omega)]
      · rw [if_neg h2, if_neg (by omega)]
theorem hrK_all (a b : List Int) (h : b.length = a.length) : hrK a b a.length = List.zipWith mixN a b := by
  have hl := hrK_len a b a.length
  refine List.ext_getElem (by simp [hl, h]) fun j h1 h2 => ?_
  have := hrK_get a b a.length j (by omega)
  rw [if_pos (by omega)] at this
  have hja : j < a.length := by omega
  have hjb : j < b.length := by omega
  rw [List.getD_eq_getElem?_getD, List.getElem?_eq_getElem h1] at this
  simp [hja, hjb] at this
  simp [this]
noncomputable def hearC (n : NetN) (m : Mas) (site : Int) (l : List Int) : Int :=
  if masC n m = 0 then if 0 ≤ placeS n site then if l.length = (m.loads.getD (placeS n site).toNat []).length then if l.all fixI = true then 0 else 2 else 4 else 2 else masC n m
noncomputable def hearM (n : NetN) (m : Mas) (site : Int) (l : List Int) : Mas :=
  if hearC n m site l = 0 then { m with loads := m.loads.set (placeS n site).toNat (List.zipWith mixN (m.loads.getD (placeS n site).toNat []) l) } else zeroM
section
variable {n : NetN} {m : Mas} {site : Int} {l : List Int}
theorem hearC_bad (h : masC n m ≠ 0) : hearC n m site l = masC n m := by unfold hearC; rw [if_neg h]
theorem hearC_no (h : masC n m = 0) (h2 : ¬ 0 ≤ placeS n site) : hearC n m site l = 2 := by unfold hearC; rw [if_pos h, if_neg h2]
theorem hearC_many (h : masC n m = 0) {t : Nat} (h2 : placeS n site = t) (h3 : l.length ≠ (m.loads.getD t []).length) : hearC n m site l = 4 := by unfold hearC; rw [if_pos h, if_pos (by omega), if_neg (by rw [h2]; exact h3)]
theorem hearC_fix (h : masC n m = 0) {t : Nat} (h2 : placeS n site = t) (h3 : l.length = (m.loads.getD t []).length) (h4 : ¬ l.all fixI = true) : hearC n m site l = 2 := by unfold hearC; rw [if_pos h, if_pos (by omega), if_pos (by rw [h2]; exact h3), if_neg h4]
theorem hearC_ok (h : masC n m = 0) {t : Nat} (h2 : placeS n site = t) (h3 : l.length = (m.loads.getD t []).length) (h4 : l.all fixI = true) : hearC n m site l = 0 := by unfold hearC; rw [if_pos h, if_pos (by omega), if_pos (by rw [h2]; exact h3), if_pos h4]
theorem hearM_bad {c : Int} (h : hearC n m site l = c) (hc : c ≠ 0) : hearM n m site l = zeroM := by unfold hearM; rw [if_neg (by rw [h]; exact hc)]
theorem hearM_ok (h : hearC n m site l = 0) {t : Nat} (h2 : placeS n site = t) : hearM n m site l = { m with loads := m.loads.set t (List.zipWith mixN (m.loads.getD t []) l) } := by unfold hearM; rw [if_pos h, h2]; rfl
theorem masC_iff : masC n m = 0 ↔ NetOk n ∧ MasOk n m := by
  by_cases h : NetOk n
  · by_cases h2 : MasOk n m
    · simp [masC_ok h h2, h, h2]
    · simp [masC_bad h h2, h, h2]
  · simp [masC_net h, h]
end
theorem rens_set (τ : Nat → Nat) : ∀ (xs : List V) (i : Nat) (v : V), rens τ (xs.set i v) = (rens τ xs).set i (v.ren τ)
  | [], i, v => by simp [rens]
  | x :: xs, 0, v => by simp [rens]
  | x :: xs, i + 1, v => by simp [rens, rens_set τ xs i v]
attribute [go_sem] rens_set
theorem all2_set {R : V → V → Prop} {v w : V} (hv : R v w) : ∀ {xs ys : List V} {i : Nat}, all2 R xs ys → all2 R (xs.set i v) (ys.set i w)
  | [], [], i, h => by simp [all2]
  | x :: xs, y :: ys, 0, h => by simp only [all2, List.set_cons_zero] at h ⊢; exact ⟨hv, h.2⟩
  | x :: xs, y :: ys, i + 1, h => by simp only [all2, List.set_cons_succ] at h ⊢; exact ⟨h.1, all2_set hv h.2⟩
theorem ints_set64 (l : List Int) (k : Nat) (x : Int) : (ints l).set k (.int .i64 x) = ints (l.set k x) := by simp [ints, List.map_set]
theorem rows_set (l : List (List Int)) (t : Nat) (r : List Int) : rows (l.set t r) = (rows l).set t (.sl 1 (ints r)) := by simp [rows, List.map_set]
theorem argLe_pures {hp : Heap} {B : Nat → Prop} {k : Nat} {xs : List V} (h : pures xs) : all2 (argLe hp B V.pure k) xs xs := all2_self fun x hx => argLe_self _ _ (pures_mem h x hx)
theorem zeroM_V : masV zeroM = .agg [.sl 3 [], .sl 3 [], .sl 2 [], .sl 1 [], .sl 3 []] := by simp [masV, zeroM, votesV, bondsV, rows]
def heS (m : Mas) (l r : List Int) (t k nx : Nat) : St :=
  ⟨[(49, .int .i64 k), (48, .int .i64 l.length), (47, .sl 1 (ints l)), (9, .int .i64 t), (6, .ptr 48 1 0 0), (4, .ptr 16 1 0 0)], [(48, ⟨.box, 32, 5, [.agg [.nilS, .nilS, .nilS, .nilS, .nilS]]⟩), (16, ⟨.box, 32, 5, [.agg [.obj 80 m.cycles.length, .obj 96 m.offsets.length, .obj 112 m.bonds.length, .obj 128 m.loads.length, .obj 144 m.splits.length]]⟩),
    (80, ⟨.arr, 50, 3, votesV m.cycles⟩), (96, ⟨.arr, 50, 3, votesV m.offsets⟩), (112, ⟨.arr, 103, 2, bondsV m.bonds⟩), (128, ⟨.arr, 46, 1, (rows m.loads).set t (.obj 160 r.length)⟩), (144, ⟨.arr, 50, 3, votesV m.splits⟩), (160, ⟨.arr, 2, 1, ints r⟩)], nx, [], 81, 0, tabG⟩
set_option maxHeartbeats 8000000 in
theorem hear_spec (n : NetN) (m : Mas) (site mode tick : Int) (l : List Int) : FnD Tryz.prog 12 [netV n, masV m, .agg [.int .i64 site, .int .u8 mode, .int .i64 tick, .sl 1 (ints l)]] (.tup [masV (hearM n m site l), .int .i64 (hearC n m site l)]) tabG := by
  have hnv : netV n = .agg [.sl 12 (n.sites.map sitV), .sl 2 (n.subs.map subV), .sl 4 (n.weds.map wedV), .int .i64 n.low, .int .i64 n.high, .int .i64 n.step] := rfl
  have hmv : masV m = .agg [.sl 3 (votesV m.cycles), .sl 3 (votesV m.offsets), .sl 2 (bondsV m.bonds), .sl 1 (rows m.loads), .sl 3 (votesV m.splits)] := rfl
  have qm := mcheck_spec n m
  have qs := nsite_spec n site
  have hpb := findA_bound n.sites (fun s => s.id == site)
  rw [← placeS] at hpb
  have qt := fun t ht => twin_ref m t ht
  rw [hnv] at qm qs ⊢
  rw [hmv] at qm qt ⊢
  refine fnD_of mixed Tryz.func12 rfl rfl (by simp [Tryz.ntmps12]) fun hwf E => ?_
  simp (disch := omega) [go_sem] at hwf
  simp (disch := omega) [Tryz.ntmps12, go_sem]
  refine callK_data qm [] (by simp [go_sem]) (.inl rfl) (by simp [go_sem]) (fun _ => ?_) (by simp [tabG, go_sem])
  simp (disch := omega) [go_sem]
  refine br_of (fun h0 => ?_) (fun h0 => ?_) <;> simp at h0
  · rw [hearC_bad h0, hearM_bad (hearC_bad h0) h0, zeroM_V]
    simp (disch := omega) [go_sem]
  · obtain ⟨hn, hm⟩ := masC_iff.1 h0
    obtain ⟨⟨l1, l2, l3, l4, l5⟩, m1, m2, m3⟩ := id hm
    obtain ⟨b1, b2⟩ : n.subs.length ≤ 6 ∧ n.sites.length ≤ 12 := ⟨hn.2.2.1.1.2, hn.2.1.1.2⟩
    have b3 : n.weds.length ≤ 8 := hn.2.2.2.1
    by_cases hp : 0 ≤ placeS n site
    · obtain ⟨t, ht⟩ : ∃ t : Nat, placeS n site = t := ⟨_, (Int.toNat_of_nonneg hp).symm⟩
      rw [ht] at hpb qs
      rw [if_pos ⟨hn, by omega⟩, if_pos hn, if_pos (by omega)] at qs
      have htl : t < m.loads.length := by omega
      have hnr := nth_rows htl
      have hgd : m.loads.getD t [] = m.loads[t] := by simp [htl]
      simp (disch := omega) [go_sem]
      refine callK_data qs [] (by simp [go_sem]) (.inl rfl) (by simp [go_sem]) (fun _ => ?_) (by simp [tabG, go_sem])
      simp (disch := omega) [go_sem]
      simp (disch := omega) [go_sem, hnr, htl]
      refine ⟨.inl (by kernel_rfl), ?_⟩
      refine br_of (fun h1 => ?_) (fun h1 => ?_) <;> simp at h1
      · have hC : hearC n m site l = 4 := hearC_many h0 ht (by rw [hgd]; omega)
        rw [hC, hearM_bad hC (by decide), zeroM_V]
        simp (disch := omega) [go_sem]
      · have hlen : l.length = m.loads[t].length := by omega
        have qt := qt t htl (by omega) (by omega) (by omega) (by omega) (by omega) (fun r hr => by
          obtain ⟨i, hi, rfl⟩ := List.getElem_of_mem hr
          have h3 := (m3 i (by omega) hi (by omega)).1
          have h4 := (hn.2.1.2.2 n.sites[i] (List.getElem_mem (by omega))).1
          have h5 := (h4 0 (by omega)).2.2.2.2.1.2
          omega)
        have f1 := twR_len m
        simp (disch := omega) [go_sem]
        refine callK_ref qt [] [] [] [] ?_ ?_ ?_ (.inl ⟨rfl, .inl rfl⟩) (fun _ => ?_)
        · simp [go_sem]
        · simp [go_sem]
        · simp [go_sem]
        simp (disch := omega) [go_sem]
        have hlm : (m.loads[t] : List Int).length = l.length := hlen.symm
        have hset : nth ((rows m.loads).set t (.obj 160 m.loads[t].length)) t = .obj 160 m.loads[t].length := by rw [nth_set, if_pos ⟨rfl, by simp [rows_len]; omega⟩]
        refine awz_loop mixed (fun k : Nat => heS m l (hrK m.loads[t] l k) t k 1024) (fun k => k ≤ l.length ∧ ∀ i, i < k → fixI (l.getD i 0) = true) (fun k => l.length - k) 0 ?_ ?_ ?_
        · exact ⟨by omega, fun i hi => by omega⟩
        · refine Le.mk [(16, some 16), (48, some 48), (80, some 528), (96, some 529), (112, some 530), (128, some 531), (144, some 532), (160, some 533)] [16, 48, 528, 529, 530, 531, 532, 533] ⟨rfl, rfl, rfl⟩ ?_ ?_ ?_ <;> simp [go_sem, heS, hrK, vsLe_self, ints_pure]
          exact vsLe_set (by simp [go_sem]) (vsLe_self _ (rows_pure _))
        · rintro k ⟨hk, hno⟩
          have hkl := hrK_len m.loads[t] l k
          simp (disch := omega) [go_sem, heS, hkl]
          refine br_of (fun h => ?_) (fun h => ?_) <;> simp at h
          · have hk2 : k < (hrK m.loads[t] l k).length := by omega
            have hk3 : k < m.loads[t].length := by omega
            have hx := hrK_get m.loads[t] l k k (by omega)
            rw [if_neg (by omega)] at hx
            have hnk : nth (ints (hrK m.loads[t] l k)) k = .int .i64 (m.loads[t][k]) := by
              rw [nth_ints hk2]; simp [hk2, hk3] at hx; rw [hx]
            have hnl : nth (ints l) k = .int .i64 (l[k]) := by rw [nth_ints h]
            have q6 := smooth_spec (m.loads[t][k]) (l[k])
            have hfa : fixI (m.loads[t][k]) = true := by
              have h3 := (m3 t (by omega) htl (by omega)).2.1
              have h4 := (loadedN_zero h3).2 k (by omega)
              simp [fixI]; exact h4
            have hgl : l.getD k 0 = l[k] := by simp [h]
            by_cases hfb : fixI l[k] = true
            · rw [if_pos ⟨hfa, hfb⟩, if_pos ⟨hfa, hfb⟩] at q6
              simp (disch := omega) [go_sem, h, hnl, hset, hnk, hkl]
              refine ⟨htl, hk3, ?_⟩
              refine callK_data q6 [] (by simp [go_sem]) (.inl rfl) (by simp [go_sem]) (fun _ => ?_)
              simp (disch := omega) [go_sem]
              have hst : (ints (hrK m.loads[t] l k)).set k (.int .i64 (mixN m.loads[t][k] l[k])) = ints (hrK m.loads[t] l (k + 1)) := by
                rw [ints_set64]; simp only [hrK]; congr 2; simp [hk3, h]
              have hkl2 := hrK_len m.loads[t] l (k + 1)
              simp (disch := omega) [go_sem, hset, hkl, htl, hk3, hnk, hst]
              have hinv : ∀ i, i < k + 1 → fixI (l.getD i 0) = true := upto hno (by rw [hgl]; exact hfb)
              refine round_of (k + 1) (⟨by omega, hinv⟩) (by omega) (Le.mk [(16, some 16), (48, some 48), (80, some 80), (96, some 96), (112, some 112), (128, some 128), (144, some 144), (160, some 160)] [16, 48, 80, 96, 112, 128, 144, 160] ⟨rfl, rfl, rfl⟩ ?_ ?_ ?_) <;> simp [go_sem, heS, vsLe_self, ints_pure, hkl2]
              exact vsLe_set (by simp [go_sem]) (vsLe_self _ (rows_pure _))
            · rw [if_neg (fun e => hfb e.2), if_neg (fun e => hfb e.2)] at q6
              have hC : hearC n m site l = 2 := hearC_fix h0 ht (by rw [hgd]; omega) (fun e => hfb (List.all_eq_true.1 e _ (List.getElem_mem h)))
              rw [hC, hearM_bad hC (by decide), zeroM_V]
              simp (disch := omega) [go_sem, h, hnl, hset, hnk, hkl]
              refine ⟨htl, hk3, ?_⟩
              refine callK_data q6 [] (by simp [go_sem]) (.inl rfl) (by simp [go_sem]) (fun _ => ?_)
              simp (disch := omega) [go_sem]
          · have hkk : k = l.length := by omega
            have hal : l.all fixI = true := List.all_eq_true.2 fun x hx => by
              obtain ⟨i, hi, rfl⟩ := List.getElem_of_mem hx
              have := hno i (by omega); simpa [hi] using this
            have hC : hearC n m site l = 0 := hearC_ok h0 ht (by rw [hgd]; omega) hal
            have hz := hrK_all m.loads[t] l (by omega)
            have hlm2 : l.length = m.loads[t].length := by omega
            rw [hC, hearM_ok hC ht, hgd, ← hz, masV, rows_set]
            subst hkk
            rw [← hlm2]
            simp (disch := omega) [go_sem]
            refine ⟨argLe_pures (votes_pure _), argLe_pures (votes_pure _), argLe_pures (bonds_pure _), all2_set ?_ (argLe_pures (rows_pure _)), argLe_pures (votes_pure _)⟩
            have hll := hrK_len m.loads[t] l l.length
            simp [go_sem]
            omega
    · have hp2 : placeS n site = -1 := by omega
      rw [if_neg (fun e => hp e.2), if_pos hn, if_neg hp] at qs
      have hC : hearC n m site l = 2 := hearC_no h0 hp
      rw [hC, hearM_bad hC (by decide), zeroM_V]
      simp (disch := omega) [go_sem]
      refine callK_data qs [] (by simp [go_sem]) (.inl rfl) (by simp [go_sem]) (fun _ => ?_) (by simp [tabG, go_sem])
      simp (disch := omega) [go_sem]
end Go.Proofs.YtpijmanjjhpkiaaGreatDoor

namespace Go.Proofs.YtpijmanjjhpkiaaGreatDoor
open Go.AM Go.RowKit
set_option maxRecDepth 100000

def startM (n : NetN) : Mas := ⟨List.replicate n.subs.length (n.low, n.low, 0), List.replicate n.weds.length (0, 0, 0), List.replicate n.weds.length (false, 0), n.sites.map fun s => List.replicate s.phases.length 0, List.replicate n.sites.length (0, 0, 0)⟩
def zv3 : V := .agg [.int .i64 0, .int .i64 0, .int .i64 0]
def zb2 : V := .agg [.bool false, .int .i64 0]
theorem votes_rep (n : Nat) : votesV (List.replicate n (0, 0, 0)) = List.replicate n (.agg [.int .i64 0, .int .i64 0, .int .i64 0]) := by simp [votesV, voteV]
theorem bonds_rep (n : Nat) : bondsV (List.replicate n (false, 0)) = List.replicate n (.agg [.bool false, .int .i64 0]) := by simp [bondsV, bondV]
theorem ints_rep (n : Nat) : ints (List.replicate n 0) = List.replicate n (.int .i64 0) := by simp [ints]
def fiR (n : NetN) (k : Nat) : List V := rows ((n.sites.take k).map fun s => List.replicate s.phases.length 0)
theorem fiR_len (n : NetN) {k : Nat} (h : k ≤ n.sites.length) : (fiR n k).length = k := by simp [fiR, rows_len]; omega
theorem fiR_pure (n : NetN) (k : Nat) : pures (fiR n k) := rows_pure _
theorem fiR_succ (n : NetN) {k : Nat} (h : k < n.sites.length) : fiR n (k + 1) = fiR n k ++ [.sl 1 (List.replicate n.sites[k].phases.length (.int .i64 0))] := by
  unfold fiR
  rw [List.take_succ_eq_append_getElem h, List.map_append]
  simp [rows, ints_rep]
theorem fiR_all (n : NetN) : fiR n n.sites.length = rows (startM n).loads := by simp [fiR, startM]
def fiB (n : NetN) (a b : V) : AM.Obj := ⟨.box, 32, 5, [.agg [a, .obj 176 n.weds.length, .obj 240 n.weds.length, b, .obj 304 n.sites.length]]⟩
def fiW (n : NetN) : List (Nat × AM.Obj) := [(304, ⟨.arr, 50, 3, List.replicate n.sites.length zv3⟩), (240, ⟨.arr, 103, 2, List.replicate n.weds.length zb2⟩), (176, ⟨.arr, 50, 3, List.replicate n.weds.length zv3⟩), (16, ⟨.box, 32, 5, [.agg [.nilS, .nilS, .nilS, .nilS, .nilS]]⟩)]
def fiC (n : NetN) (k : Nat) : List V := List.replicate k (.agg [.int .i64 n.low, .int .i64 n.low, .int .i64 0])
theorem fiC_succ (n : NetN) (k : Nat) : fiC n (k + 1) = fiC n k ++ [.agg [.int .i64 n.low, .int .i64 n.low, .int .i64 0]] := by simp [fiC, List.replicate_succ']
theorem fiC_len (n : NetN) (k : Nat) : (fiC n k).length = k := by simp [fiC]
theorem fiC_all (n : NetN) : fiC n n.subs.length = votesV (startM n).cycles := by simp [fiC, startM, votesV, voteV]
theorem pures_repV (n : Nat) (v : V) (h : v.pure) : pures (List.replicate n v) := by
  induction n with
  | zero => simp [pures]
  | succ n ih => simp only [List.replicate_succ, pures]; exact ⟨h, ih⟩
theorem fiC_pure (n : NetN) (k : Nat) : pures (fiC n k) := pures_repV _ _ (by simp [go_sem])
theorem zv3_pures (n : Nat) : pures (List.replicate n zv3) := pures_repV _ _ (by simp [zv3, go_sem])
theorem zb2_pures (n : Nat) : pures (List.replicate n zb2) := pures_repV _ _ (by simp [zb2, go_sem])
theorem vsLe_append {hp : Heap} {σ : Nat → Option (Option Nat)} {B : Nat → Prop} : ∀ {xs ys xs' ys' : List V}, vsLe hp σ B xs xs' → vsLe hp σ B ys ys' → vsLe hp σ B (xs ++ ys) (xs' ++ ys')
  | [], ys, xs', ys', h, h2 => by simp only [vsLe] at h; subst h; exact h2
  | x :: xs, ys, xs', ys', h, h2 => by
    simp only [vsLe] at h
    obtain ⟨y, r, rfl, h3, h4⟩ := h
    exact ⟨y, r ++ ys', rfl, h3, vsLe_append h4 h2⟩
noncomputable def firstM (n : NetN) : Mas := if NetOk n then startM n else zeroM
set_option maxHeartbeats 8000000 in
theorem first_spec (n : NetN) : FnD Tryz.prog 8 [netV n] (.tup [masV (firstM n), .int .i64 (netN n)]) tabG := by
  have hnv : netV n = .agg [.sl 12 (n.sites.map sitV), .sl 2 (n.subs.map subV), .sl 4 (n.weds.map wedV), .int .i64 n.low, .int .i64 n.high, .int .i64 n.step] := rfl
  have qc := ncheck_spec n
  by_cases hn : NetOk n
  rotate_left
  · rw [firstM, if_neg hn, zeroM_V]
    rw [netN_bad hn] at qc ⊢
    rw [hnv] at qc ⊢
    refine fnD_of mixed Tryz.func8 rfl rfl (by simp [Tryz.ntmps8]) fun hwf E => ?_
    clear hwf
    simp (disch := omega) [Tryz.ntmps8, go_sem]
    refine callK_data qc [] (by simp [go_sem]) (.inl rfl) (by simp [go_sem]) (fun _ => ?_) (by simp [tabG, go_sem])
    simp (disch := omega) [go_sem]
  rw [firstM, if_pos hn]
  rw [netN_ok hn] at qc ⊢
  rw [hnv] at qc ⊢
  obtain ⟨b1, b2⟩ : n.subs.length ≤ 6 ∧ n.sites.length ≤ 12 := ⟨hn.2.2.1.1.2, hn.2.1.1.2⟩
  have b3 : n.weds.length ≤ 8 := hn.2.2.2.1
  have b4 : ∀ i, (h : i < n.sites.length) → n.sites[i].phases.length ≤ 8 := fun i h => ((hn.2.1.2.2 n.sites[i] (List.getElem_mem h)).1 0 (by omega)).2.2.2.2.1.2
  refine fnD_of mixed Tryz.func8 rfl rfl (by simp [Tryz.ntmps8]) fun hwf E => ?_
  simp (disch := omega) [go_sem] at hwf
  simp (disch := omega) [Tryz.ntmps8, go_sem]
  refine callK_data qc [] (by simp [go_sem]) (.inl rfl) (by simp [go_sem]) (fun _ => ?_) (by simp [tabG, go_sem])
  simp (disch := omega) [go_sem]
  refine ⟨⟨by omega, by omega⟩, ⟨by omega, by omega⟩, ⟨by omega, by omega⟩, .inl (by kernel_rfl), ?_⟩
  have hz3 : V.agg [.int .i64 0, .int .i64 0, .int .i64 0] = zv3 := rfl
  have hz2 : V.agg [.bool false, .int .i64 0] = zb2 := rfl
  rw [hz3, hz2]
  refine awz_loop mixed (fun k : Nat => ⟨[(30, .int .i64 k), (29, .int .i64 n.subs.length), (5, .ptr 336 1 0 0), (2, .ptr 16 1 0 0), (1, .ptr 0 1 0 0)], (336, fiB n (.obj 512 k) .nilS) :: (512, ⟨.arr, 50, 3, fiC n k⟩) :: (0, ⟨.box, 26, 6, [netV n]⟩) :: fiW n, 1024, [], 61, 0, tabG⟩) (fun k => k ≤ n.subs.length) (fun k => n.subs.length - k) 0 ?_ ?_ ?_
  · omega
  · refine Le.mk [(0, some 0), (16, some 16), (176, some 176), (240, some 240), (304, some 304), (336, some 336), (512, none)] [0, 16, 176, 240, 304, 336] ⟨rfl, rfl, rfl⟩ ?_ ?_ ?_ <;> simp [go_sem, fiB, fiW, netV, fiC, vsLe_self, zv3_pures, zb2_pures]
  · intro k hk
    have e1 := fiC_len n k
    simp (disch := omega) [go_sem, fiB, fiW, netV, e1]
    refine br_of (fun h => ?_) (fun h => ?_) <;> simp at h
    · simp (disch := omega) [go_sem, e1]
      have e2 := fiC_succ n k
      have e3 := fiC_len n (k + 1)
      refine ⟨⟨by omega, by omega⟩, ?_⟩
      refine round_of (k + 1) (by omega) (by omega) (Le.mk [(0, some 0), (16, some 16), (176, some 176), (240, some 240), (304, some 304), (336, some 336), (512, some 512)] [0, 16, 176, 240, 304, 336, 512] ⟨rfl, rfl, rfl⟩ ?_ ?_ ?_) <;> simp [go_sem, fiB, fiW, netV, vsLe_self, zv3_pures, zb2_pures, e3, e2, fiC_pure]
    · have hkk : k = n.subs.length := by omega
      subst hkk
      simp (disch := omega) [go_sem]
      refine awz_loop mixed (fun k : Nat => ⟨[(46, .int .i64 k), (45, .int .i64 n.sites.length), (44, .sl 12 (n.sites.map sitV)), (5, .ptr 336 1 0 0), (2, .ptr 16 1 0 0)], (336, fiB n (.obj 512 n.subs.length) (.obj 528 k)) :: (512, ⟨.arr, 50, 3, fiC n n.subs.length⟩) :: (528, ⟨.arr, 46, 1, fiR n k⟩) :: fiW n, 2048, [], 61, 0, tabG⟩) (fun k => k ≤ n.sites.length) (fun k => n.sites.length - k) 0 ?_ ?_ ?_
      · omega
      · refine Le.mk [(16, some 16), (176, some 176), (240, some 240), (304, some 304), (336, some 336), (512, some 512), (528, none)] [16, 176, 240, 304, 336, 512] ⟨rfl, rfl, rfl⟩ ?_ ?_ ?_ <;> simp [go_sem, fiB, fiW, netV, fiC_pure, fiR, rows, vsLe_self, zv3_pures, zb2_pures]
      · intro k hk
        have e1 := fiR_len n hk
        have e4 := fiC_len n n.subs.length
        simp (disch := omega) [go_sem, fiB, fiW, netV, e1, e4]
        refine br_of (fun h => ?_) (fun h => ?_) <;> simp at h
        · have hw : nth (n.sites.map sitV) k = sitV n.sites[k] := nth_map h
          have b5 := b4 k h
          have e2 := fiR_succ n h
          have e3 := fiR_len n (k := k + 1) (by omega)
          generalize n.sites[k] = w at *
          simp only [sitV] at hw
          simp (disch := omega) [go_sem, e1, hw, h]
          refine ⟨⟨by omega, by omega⟩, ⟨by omega, by omega⟩, .inl (by kernel_rfl), ?_⟩
          refine round_of (k + 1) (by omega) (by omega) (Le.mk [(16, some 16), (176, some 176), (240, some 240), (304, some 304), (336, some 336), (512, some 512), (528, some 528)] [16, 176, 240, 304, 336, 512, 528] ⟨rfl, rfl, rfl⟩ ?_ ?_ ?_) <;> simp [go_sem, fiB, fiW, netV, vsLe_self, zv3_pures, zb2_pures, e3, e2, fiC_pure, e1, e4]
          exact vsLe_append (vsLe_self _ (fiR_pure _ _)) (by simp [go_sem, argLe_pures, pures_rep])
        · have hkk : k = n.sites.length := by omega
          subst hkk
          have e5 := fiC_all n
          have e6 := fiR_all n
          have e7 : List.replicate n.weds.length zv3 = votesV (startM n).offsets := (votes_rep _).symm
          have e8 : List.replicate n.weds.length zb2 = bondsV (startM n).bonds := (bonds_rep _).symm
          have e9 : List.replicate n.sites.length zv3 = votesV (startM n).splits := (votes_rep _).symm
          have e10 : (votesV (startM n).splits).length = n.sites.length := by rw [← e9]; simp
          have e11 : (votesV (startM n).offsets).length = n.weds.length := by rw [← e7]; simp
          have e12 : (bondsV (startM n).bonds).length = n.weds.length := by rw [← e8]; simp
          rw [e5] at e4
          rw [e6] at e1
          rw [e5, e6, e7, e8, e9, masV]
          generalize startM n = m at *
          simp (disch := omega) [go_sem, e1, e4, e10, e11, e12]
          exact ⟨argLe_pures (votes_pure _), argLe_pures (votes_pure _), argLe_pures (bonds_pure _), argLe_pures (rows_pure _), argLe_pures (votes_pure _)⟩
end Go.Proofs.YtpijmanjjhpkiaaGreatDoor

namespace Go.Proofs.YtpijmanjjhpkiaaGreatDoor
open Go.AM Go.RowKit
set_option maxRecDepth 100000

/-- A list, of which the first k are turned. -/
def mapK {α : Type} (f : Nat → α → α) (l : List α) (k : Nat) : List α := l.mapIdx fun i x => if i < k then f i x else x
theorem mapK_len {α : Type} (f : Nat → α → α) (l : List α) (k : Nat) : (mapK f l k).length = l.length := by simp [mapK]
theorem mapK_zero {α : Type} (f : Nat → α → α) (l : List α) : mapK f l 0 = l := by
  refine List.ext_getElem (by simp [mapK]) fun i h1 h2 => by simp [mapK]
theorem mapK_at {α : Type} (f : Nat → α → α) (l : List α) {k : Nat} (h : k < (mapK f l k).length) (h2 : k < l.length) : (mapK f l k)[k] = l[k] := by simp [mapK]
theorem mapK_succ {α : Type} (f : Nat → α → α) (l : List α) {k : Nat} (h : k < l.length) : (mapK f l k).set k (f k l[k]) = mapK f l (k + 1) := by
  refine List.ext_getElem (by simp [mapK]) fun i h1 h2 => ?_
  simp only [mapK, List.getElem_set, List.getElem_mapIdx]
  by_cases e : k = i
  · subst e; simp
  · by_cases h3 : i < k
    · rw [if_neg e, if_pos h3, if_pos (by omega)]
    · rw [if_neg e, if_neg h3, if_neg (by omega)]
theorem mapK_all {α : Type} (f : Nat → α → α) (l : List α) : mapK f l l.length = l.mapIdx f := by
  refine List.ext_getElem (by simp [mapK]) fun i h1 h2 => ?_
  simp only [mapK, List.getElem_mapIdx]
  rw [if_pos (by simpa using h2)]
theorem votes_set (l : List (Int × Int × Int)) (k : Nat) (v : Int × Int × Int) : (votesV l).set k (voteV v) = votesV (l.set k v) := by simp [votesV, List.map_set]
theorem bonds_set (l : List (Bool × Int)) (k : Nat) (v : Bool × Int) : (bondsV l).set k (bondV v) = bondsV (l.set k v) := by simp [bondsV, List.map_set]
def bX (n : NetN) (m : Mas) (x y z : V) : AM.Obj := ⟨.box, 89, 14, [.agg [.sl 12 (n.sites.map sitV), .sl 2 (n.subs.map subV), .sl 4 (n.weds.map wedV), .int .i64 n.low, .int .i64 n.high, .int .i64 n.step, .obj 1 m.cycles.length, .obj 2 m.offsets.length, .obj 3 m.bonds.length, .sl 1 (rows m.loads), .obj 4 m.splits.length, x, y, z]]⟩
def bO (n : NetN) (m : Mas) (x y z : V) : List AM.Obj := [bX n m x y z, ⟨.arr, 50, 3, votesV m.cycles⟩, ⟨.arr, 50, 3, votesV m.offsets⟩, ⟨.arr, 103, 2, bondsV m.bonds⟩, ⟨.arr, 50, 3, votesV m.splits⟩]
def critN (n : NetN) (m : Mas) (i : Nat) : List Int := m.loads.getD ((n.subs.map SubN.critical).getD i 0).toNat []
/-- The sub's critical site is one of the region. -/
theorem crit_ok {n : NetN} (hn : NetOk n) {i : Nat} (h : i < n.subs.length) : 0 ≤ n.subs[i].critical ∧ n.subs[i].critical < n.sites.length := by
  obtain ⟨h1, h2, h3, h4⟩ := subs_all hn
  have hc := hn.2.2.1.2.2.1 _ (List.getElem_mem h)
  exact h2 _ (List.mem_flatMap.2 ⟨_, List.getElem_mem h, hc⟩)
theorem critN_at {n : NetN} {m : Mas} {i : Nat} (h : i < n.subs.length) {c : Nat} (hc : n.subs[i].critical = c) (h2 : c < m.loads.length) : critN n m i = m.loads[c] := by
  unfold critN; simp [h, hc, h2]
def ptrB : V := .ptr 0 1 0 0
set_option maxHeartbeats 2000000 in
theorem critical_ref (n : NetN) (m : Mas) (x y z : V) (hn : NetOk n) (hm : m.loads.length = n.sites.length) (i : Nat) (h : i < n.subs.length) (hx : x.pure) (hy : y.pure) (hz : z.pure) : FnR Tryz.prog 61 (bO n m x y z) [ptrB, .int .i64 i] (bO n m x y z) (.sl 1 (ints (critN n m i))) := by
  obtain ⟨h1, h2⟩ := crit_ok hn h
  obtain ⟨c, hc⟩ : ∃ c : Nat, n.subs[i].critical = c := ⟨_, (Int.toNat_of_nonneg h1).symm⟩
  rw [hc] at h2
  have h3 : c < m.loads.length := by omega
  rw [critN_at h hc h3]
  have hw : nth (n.subs.map subV) i = subV n.subs[i] := nth_map h
  have hsv : subV n.subs[i] = .agg [.sl 1 (ints n.subs[i].sites), .int .i64 c] := by rw [← hc]; rfl
  have hr := nth_rows h3
  unfold bO bX ptrB
  refine fnR_of mixed Tryz.func61 rfl rfl (by simp [Tryz.ntmps61]) (by simp) fun hwf E => ?_
  clear hwf
  simp (disch := omega) [Tryz.ntmps61, go_sem]
  simp (disch := omega) [go_sem, hsv, hr, h, h3]
  refine ⟨.inl (by kernel_rfl), ?_⟩
  refine Le.mk [(0, some 0), (1, some 1), (2, some 2), (3, some 3), (4, some 4)] [0, 1, 2, 3, 4] ⟨rfl, rfl, rfl⟩ ?_ ?_ ?_ <;> simp [go_sem, vsLe_self, votes_pure, bonds_pure, ints_pure, rows_pure, vLe_self, hx, hy, hz]

/-- The subs' cycles a vote later. -/
noncomputable def votF (n : NetN) (m : Mas) (i : Nat) (v : Int × Int × Int) : Int × Int × Int := nextV n v (highX (critN n m i))
noncomputable def votM (n : NetN) (m : Mas) (k : Nat) : Mas := { m with cycles := mapK (votF n m) m.cycles k }
def boS (n : NetN) (m : Mas) (sl : List (Nat × V)) (nx N : Nat) : St :=
  ⟨sl, obsL 0 (bO n m .nilS .nilS .nilS), nx, [], N, 5, tabG⟩
set_option maxHeartbeats 4000000 in
theorem votes_ref (n : NetN) (m : Mas) (hn : NetOk n) (hm : m.loads.length = n.sites.length) (hc : m.cycles.length = n.subs.length) : FnR Tryz.prog 28 (bO n m .nilS .nilS .nilS) [ptrB] (bO n (votM n m m.cycles.length) .nilS .nilS .nilS) (.tup []) tabG := by
  have hz : votM n m 0 = m := by unfold votM; rw [mapK_zero]
  have hb6 : n.subs.length ≤ 6 := hn.2.2.1.1.2
  unfold bO bX ptrB
  refine fnR_of mixed Tryz.func28 rfl rfl (by simp [Tryz.ntmps28]) (by simp) fun hwf E => ?_
  clear hwf
  simp (disch := omega) [Tryz.ntmps28, go_sem]
  refine awz_loop mixed (fun k : Nat => boS n (votM n m k) [(12, .int .i64 k), (11, .int .i64 m.cycles.length), (0, .ptr 0 1 0 0)] 1024 48) (fun k => k ≤ m.cycles.length) (fun k => m.cycles.length - k) 0 ?_ ?_ ?_
  · omega
  · rw [hz]
    refine Le.mk [(0, some 0), (1, some 1), (2, some 2), (3, some 3), (4, some 4)] [0, 1, 2, 3, 4] ⟨rfl, rfl, rfl⟩ ?_ ?_ ?_ <;> simp [go_sem, boS, bO, bX, vsLe_self, votes_pure, bonds_pure, rows_pure]
  · intro k hk
    have hkl : (votM n m k).cycles.length = m.cycles.length := mapK_len _ _ _
    have hkl2 : (votesV (votM n m k).cycles).length = m.cycles.length := by rw [votes_len]; exact hkl
    simp (disch := omega) [go_sem, boS, bO, bX, hkl, hkl2]
    refine br_of (fun h => ?_) (fun h => ?_) <;> simp at h
    · have hcr := critical_ref n (votM n m k) .nilS .nilS .nilS hn hm k (by omega) (by simp [go_sem]) (by simp [go_sem]) (by simp [go_sem])
      unfold bO bX ptrB at hcr
      rw [hkl] at hcr
      have hce : critN n (votM n m k) k = critN n m k := rfl
      rw [hce] at hcr
      have hh := highest_spec (critN n m k)
      simp (disch := omega) [go_sem]
      refine callK_same hcr [(0, some 0), (1, some 1), (2, some 2), (3, some 3), (4, some 4)] [0, 1, 2, 3, 4] ?_ ?_ ?_ ?_ (fun _ => ?_)
      · simp [go_sem, vsLe_self, votes_pure, bonds_pure, rows_pure]
      · simp [go_sem, vsLe_self, votes_pure, bonds_pure, rows_pure]
      · simp [go_sem, vsLe_self, votes_pure, bonds_pure, rows_pure]
      · simp [go_sem, vsLe_self, votes_pure, bonds_pure, rows_pure]
      simp (disch := omega) [go_sem, vsLe_self, votes_pure, bonds_pure, rows_pure]
      refine callK_data hh [] (by simp [go_sem]) (.inl rfl) (by simp [go_sem]) (fun _ => ?_)
      simp (disch := omega) [go_sem]
      have hke : k < (votM n m k).cycles.length := by omega
      have hat : (votM n m k).cycles[k] = m.cycles[k] := mapK_at _ _ _ _
      have hv : nth (votesV (votM n m k).cycles) k = voteV m.cycles[k] := by rw [nth_votes hke, hat]
      have hv2 : ∀ h', (votesV (votM n m k).cycles)[k]'h' = voteV m.cycles[k] := fun h' => by rw [← hat]; simp [votesV]
      have hq := next_spec n m.cycles[k] (highX (critN n m k))
      have hst : (votesV (votM n m k).cycles).set k (voteV (nextV n m.cycles[k] (highX (critN n m k)))) = votesV (votM n m (k + 1)).cycles := by
        rw [votes_set]; exact congrArg votesV (mapK_succ (votF n m) m.cycles (by omega))
      generalize m.cycles[k] = v at *
      generalize nextV n v (highX (critN n m k)) = r at *
      obtain ⟨va, vb, vc⟩ := v
      obtain ⟨ra, rb, rc⟩ := r
      simp only [voteV] at hv hv2 hq hst
      rw [netV] at hq
      simp (disch := omega) [go_sem, hv, hv2, h, hkl, hkl2]
      refine callK_data hq [] (by simp [go_sem]) (.inl rfl) (by simp [go_sem]) (fun _ => ?_) (by simp [tabG, go_sem])
      simp (disch := omega) [go_sem]
      simp (disch := omega) [go_sem, hst, hv, hv2, hkl, hkl2, h]
      have hkl3 : (votM n m (k + 1)).cycles.length = m.cycles.length := mapK_len _ _ _
      have ho1 : (votM n m (k + 1)).offsets = (votM n m k).offsets := rfl
      have ho2 : (votM n m (k + 1)).bonds = (votM n m k).bonds := rfl
      have ho3 : (votM n m (k + 1)).loads = (votM n m k).loads := rfl
      have ho4 : (votM n m (k + 1)).splits = (votM n m k).splits := rfl
      refine ⟨.inl (by kernel_rfl), ?_⟩
      refine round_of (k + 1) (by omega) (by omega) (Le.mk [(0, some 0), (1, some 1), (2, some 2), (3, some 3), (4, some 4)] [0, 1, 2, 3, 4] ⟨rfl, rfl, rfl⟩ ?_ ?_ ?_) <;> simp [go_sem, boS, bO, bX, hkl3, ho1, ho2, ho3, ho4, vsLe_self, votes_pure, bonds_pure, rows_pure]
    · have hkk : k = m.cycles.length := by omega
      subst hkk
      simp (disch := omega) [go_sem]
      refine Le.mk [(0, some 0), (1, some 1), (2, some 2), (3, some 3), (4, some 4)] [0, 1, 2, 3, 4] ⟨rfl, rfl, rfl⟩ ?_ ?_ ?_ <;> simp [go_sem, vsLe_self, votes_pure, bonds_pure, rows_pure, hkl]

def nowAt (m : Mas) (c : Int) : Int := (m.cycles.getD c.toNat (0, 0, 0)).1
/-- The weds' bonds a vote later. -/
noncomputable def bonF (n : NetN) (m : Mas) (i : Nat) (b : Bool × Int) : Bool × Int := bondN n i b (nowAt m ((n.weds.map WedN.a).getD i 0)) (nowAt m ((n.weds.map WedN.b).getD i 0))
noncomputable def bonM (n : NetN) (m : Mas) (k : Nat) : Mas := { m with bonds := mapK (bonF n m) m.bonds k }
theorem wed_ok {n : NetN} (hn : NetOk n) {i : Nat} (h : i < n.weds.length) : ∃ a b : Nat, n.weds[i].a = a ∧ n.weds[i].b = b ∧ a < n.subs.length ∧ b < n.subs.length := by
  obtain ⟨h1, h2, h3, _⟩ := hn.2.2.2.2.2 _ (List.getElem_mem h)
  exact ⟨n.weds[i].a.toNat, n.weds[i].b.toNat, by omega, by omega, by omega, by omega⟩
set_option maxHeartbeats 4000000 in
theorem bonds_ref (n : NetN) (m : Mas) (hn : NetOk n) (hc : m.cycles.length = n.subs.length) (hb : m.bonds.length = n.weds.length) : FnR Tryz.prog 29 (bO n m .nilS .nilS .nilS) [ptrB] (bO n (bonM n m n.weds.length) .nilS .nilS .nilS) (.tup []) tabG := by
  have hz : bonM n m 0 = m := by unfold bonM; rw [mapK_zero]
  have hb6 : n.weds.length ≤ 8 := hn.2.2.2.1
  unfold bO bX ptrB
  refine fnR_of mixed Tryz.func29 rfl rfl (by simp [Tryz.ntmps29]) (by simp) fun hwf E => ?_
  clear hwf
  simp (disch := omega) [Tryz.ntmps29, go_sem]
  refine awz_loop mixed (fun k : Nat => boS n (bonM n m k) [(10, .int .i64 k), (9, .int .i64 n.weds.length), (8, .sl 4 (n.weds.map wedV)), (0, .ptr 0 1 0 0)] 1024 60) (fun k => k ≤ n.weds.length) (fun k => n.weds.length - k) 0 ?_ ?_ ?_
  · omega
  · rw [hz]
    refine Le.mk [(0, some 0), (1, some 1), (2, some 2), (3, some 3), (4, some 4)] [0, 1, 2, 3, 4] ⟨rfl, rfl, rfl⟩ ?_ ?_ ?_ <;> simp [go_sem, boS, bO, bX, vsLe_self, votes_pure, bonds_pure, rows_pure]
  · intro k hk
    have hkl : (bonM n m k).bonds.length = m.bonds.length := mapK_len _ _ _
    have hcl : (bonM n m k).cycles = m.cycles := rfl
    simp (disch := omega) [go_sem, boS, bO, bX, hkl, hcl]
    refine br_of (fun h => ?_) (fun h => ?_) <;> simp at h
    · obtain ⟨a, b, ha, hb2, h1, h2⟩ := wed_ok hn h
      have hke : k < (bonM n m k).bonds.length := by omega
      have hkm : k < m.bonds.length := by omega
      have hat : (bonM n m k).bonds[k] = m.bonds[k] := mapK_at _ _ _ _
      have hv : nth (bondsV (bonM n m k).bonds) k = bondV m.bonds[k] := by rw [nth_bonds hke, hat]
      have hv2 : ∀ h', (bondsV (bonM n m k).bonds)[k]'h' = bondV m.bonds[k] := fun h' => by rw [← hat]; simp [bondsV]
      have a1 : a < m.cycles.length := by omega
      have a2 : b < m.cycles.length := by omega
      have hva := nth_votes a1
      have hvb := nth_votes a2
      have hq := bond_spec n k m.bonds[k] m.cycles[a].1 m.cycles[b].1
      have hst : (bondsV (bonM n m k).bonds).set k (bondV (bondN n k m.bonds[k] m.cycles[a].1 m.cycles[b].1)) = bondsV (bonM n m (k + 1)).bonds := by
        rw [bonds_set]
        have : bonF n m k m.bonds[k] = bondN n k m.bonds[k] m.cycles[a].1 m.cycles[b].1 := by
          unfold bonF nowAt; simp [h, ha, hb2, a1, a2]
        rw [← this]
        exact congrArg bondsV (mapK_succ (bonF n m) m.bonds hkm)
      have hw : nth (n.weds.map wedV) k = wedV n.weds[k] := nth_map h
      have hwv : wedV n.weds[k] = .agg [.int .i64 a, .int .i64 b, .int .i64 n.weds[k].votes, .sl 1 (ints n.weds[k].offsets)] := by rw [← ha, ← hb2]; rfl
      generalize m.bonds[k] = v at *
      generalize m.cycles[a] = ca at *
      generalize m.cycles[b] = cb at *
      generalize n.weds[k].votes = wv at *
      generalize n.weds[k].offsets = wo at *
      generalize bondN n k v ca.1 cb.1 = r at *
      obtain ⟨va, vb⟩ := v
      obtain ⟨ra, rb⟩ := r
      obtain ⟨c1, c2, c3⟩ := ca
      obtain ⟨d1, d2, d3⟩ := cb
      simp only [bondV] at hv hv2 hq hst
      simp only [voteV] at hva hvb
      rw [netV] at hq
      simp (disch := omega) [go_sem, hv, hv2, h, hkl, hwv, hva, hvb, a1, a2]
      refine ⟨hkm, ?_⟩
      refine callK_data hq [] (by simp [go_sem]) (.inl rfl) (by simp [go_sem]) (fun _ => ?_) (by simp [tabG, go_sem])
      simp (disch := omega) [go_sem]
      simp (disch := omega) [go_sem, hst, hv, hv2, hkl, h, hkm]
      have hkl3 : (bonM n m (k + 1)).bonds.length = m.bonds.length := mapK_len _ _ _
      have ho1 : (bonM n m (k + 1)).offsets = (bonM n m k).offsets := rfl
      have ho2 : (bonM n m (k + 1)).cycles = m.cycles := rfl
      have ho3 : (bonM n m (k + 1)).loads = (bonM n m k).loads := rfl
      have ho4 : (bonM n m (k + 1)).splits = (bonM n m k).splits := rfl
      refine ⟨.inl (by kernel_rfl), ?_⟩
      refine round_of (k + 1) (by omega) (by omega) (Le.mk [(0, some 0), (1, some 1), (2, some 2), (3, some 3), (4, some 4)] [0, 1, 2, 3, 4] ⟨rfl, rfl, rfl⟩ ?_ ?_ ?_) <;> simp [go_sem, boS, bO, bX, hkl3, ho1, ho2, ho3, ho4, vsLe_self, votes_pure, bonds_pure, rows_pure]
    · have hkk : k = n.weds.length := by omega
      subst hkk
      simp (disch := omega) [go_sem]
      refine Le.mk [(0, some 0), (1, some 1), (2, some 2), (3, some 3), (4, some 4)] [0, 1, 2, 3, 4] ⟨rfl, rfl, rfl⟩ ?_ ?_ ?_ <;> simp [go_sem, vsLe_self, votes_pure, bonds_pure, rows_pure, hkl, hcl]
end Go.Proofs.YtpijmanjjhpkiaaGreatDoor

namespace Go.Proofs.YtpijmanjjhpkiaaGreatDoor
open Go.AM Go.RowKit
set_option maxRecDepth 100000

/-- The weds' plans a vote later. -/
noncomputable def offF (n : NetN) (m : Mas) (i : Nat) (v : Int × Int × Int) : Int × Int × Int := (oNextV n i v (critN n m ((n.weds.map WedN.b).getD i 0).toNat)).1
noncomputable def offM (n : NetN) (m : Mas) (k : Nat) : Mas := { m with offsets := mapK (offF n m) m.offsets k }
set_option maxHeartbeats 4000000 in
theorem offsets_ref (n : NetN) (m : Mas) (hn : NetOk n) (hm : m.loads.length = n.sites.length) (hb : m.offsets.length = n.weds.length) : FnR Tryz.prog 30 (bO n m .nilS .nilS .nilS) [ptrB] (bO n (offM n m n.weds.length) .nilS .nilS .nilS) (.tup []) tabG := by
  have hz : offM n m 0 = m := by unfold offM; rw [mapK_zero]
  have hb6 : n.weds.length ≤ 8 := hn.2.2.2.1
  unfold bO bX ptrB
  refine fnR_of mixed Tryz.func30 rfl rfl (by simp [Tryz.ntmps30]) (by simp) fun hwf E => ?_
  clear hwf
  simp (disch := omega) [Tryz.ntmps30, go_sem]
  refine awz_loop mixed (fun k : Nat => boS n (offM n m k) [(10, .int .i64 k), (9, .int .i64 n.weds.length), (8, .sl 4 (n.weds.map wedV)), (0, .ptr 0 1 0 0)] 1024 44) (fun k => k ≤ n.weds.length) (fun k => n.weds.length - k) 0 ?_ ?_ ?_
  · omega
  · rw [hz]
    refine Le.mk [(0, some 0), (1, some 1), (2, some 2), (3, some 3), (4, some 4)] [0, 1, 2, 3, 4] ⟨rfl, rfl, rfl⟩ ?_ ?_ ?_ <;> simp [go_sem, boS, bO, bX, vsLe_self, votes_pure, bonds_pure, rows_pure]
  · intro k hk
    have hkl : (offM n m k).offsets.length = m.offsets.length := mapK_len _ _ _
    simp (disch := omega) [go_sem, boS, bO, bX, hkl]
    refine br_of (fun h => ?_) (fun h => ?_) <;> simp at h
    · obtain ⟨a, b, ha, hb2, h1, h2⟩ := wed_ok hn h
      have hke : k < (offM n m k).offsets.length := by omega
      have hkm : k < m.offsets.length := by omega
      have hat : (offM n m k).offsets[k] = m.offsets[k] := mapK_at _ _ _ _
      have hv : nth (votesV (offM n m k).offsets) k = voteV m.offsets[k] := by rw [nth_votes hke, hat]
      have hv2 : ∀ h', (votesV (offM n m k).offsets)[k]'h' = voteV m.offsets[k] := fun h' => by rw [← hat]; simp [votesV]
      have hcr := critical_ref n (offM n m k) .nilS .nilS .nilS hn hm b h2 (by simp [go_sem]) (by simp [go_sem]) (by simp [go_sem])
      unfold bO bX ptrB at hcr
      rw [hkl] at hcr
      have hce : critN n (offM n m k) b = critN n m b := rfl
      rw [hce] at hcr
      have hq := oNext_spec n k m.offsets[k] (critN n m b)
      have hst : (votesV (offM n m k).offsets).set k (voteV (oNextV n k m.offsets[k] (critN n m b)).1) = votesV (offM n m (k + 1)).offsets := by
        rw [votes_set]
        have : offF n m k m.offsets[k] = (oNextV n k m.offsets[k] (critN n m b)).1 := by unfold offF; simp [h, hb2]
        rw [← this]
        exact congrArg votesV (mapK_succ (offF n m) m.offsets hkm)
      have hw : nth (n.weds.map wedV) k = wedV n.weds[k] := nth_map h
      have hwv : wedV n.weds[k] = .agg [.int .i64 a, .int .i64 b, .int .i64 n.weds[k].votes, .sl 1 (ints n.weds[k].offsets)] := by rw [← ha, ← hb2]; rfl
      generalize m.offsets[k] = v at *
      generalize n.weds[k].votes = wv at *
      generalize n.weds[k].offsets = wo at *
      generalize oNextV n k v (critN n m b) = r at *
      obtain ⟨va, vb, vc⟩ := v
      obtain ⟨⟨ra, rb, rc⟩, re⟩ := r
      simp only [voteE, voteV] at hv hv2 hq hst
      rw [netV] at hq
      simp (disch := omega) [go_sem, hv, hv2, h, hkl, hwv]
      refine ⟨hkm, ?_⟩
      refine callK_same hcr [(0, some 0), (1, some 1), (2, some 2), (3, some 3), (4, some 4)] [0, 1, 2, 3, 4] ?_ ?_ ?_ ?_ (fun _ => ?_)
      · simp [go_sem, vsLe_self, votes_pure, bonds_pure, rows_pure]
      · simp [go_sem, vsLe_self, votes_pure, bonds_pure, rows_pure]
      · simp [go_sem, vsLe_self, votes_pure, bonds_pure, rows_pure]
      · simp [go_sem, vsLe_self, votes_pure, bonds_pure, rows_pure]
      simp (disch := omega) [go_sem, vsLe_self, votes_pure, bonds_pure, rows_pure]
      refine callK_data hq [] (by simp [go_sem]) (.inl rfl) (by simp [go_sem]) (fun _ => ?_) (by simp [tabG, go_sem])
      simp (disch := omega) [go_sem]
      simp (disch := omega) [go_sem, hst, hv, hv2, hkl, h, hkm]
      have hkl3 : (offM n m (k + 1)).offsets.length = m.offsets.length := mapK_len _ _ _
      have ho1 : (offM n m (k + 1)).bonds = (offM n m k).bonds := rfl
      have ho2 : (offM n m (k + 1)).cycles = (offM n m k).cycles := rfl
      have ho3 : (offM n m (k + 1)).loads = (offM n m k).loads := rfl
      have ho4 : (offM n m (k + 1)).splits = (offM n m k).splits := rfl
      refine ⟨.inl (by kernel_rfl), ?_⟩
      refine round_of (k + 1) (by omega) (by omega) (Le.mk [(0, some 0), (1, some 1), (2, some 2), (3, some 3), (4, some 4)] [0, 1, 2, 3, 4] ⟨rfl, rfl, rfl⟩ ?_ ?_ ?_) <;> simp [go_sem, boS, bO, bX, hkl3, ho1, ho2, ho3, ho4, vsLe_self, votes_pure, bonds_pure, rows_pure]
    · have hkk : k = n.weds.length := by omega
      subst hkk
      simp (disch := omega) [go_sem]
      refine Le.mk [(0, some 0), (1, some 1), (2, some 2), (3, some 3), (4, some 4)] [0, 1, 2, 3, 4] ⟨rfl, rfl, rfl⟩ ?_ ?_ ?_ <;> simp [go_sem, vsLe_self, votes_pure, bonds_pure, rows_pure, hkl]

theorem ints_app1 (l : List Int) (x : Int) : ints (l ++ [x]) = ints l ++ [.int .i64 x] := by simp [ints]
def nowsL (m : Mas) : List Int := m.cycles.map (·.1)
noncomputable def cycB (n : NetN) (m : Mas) : List Int := cyclesL n m.bonds (nowsL m)
noncomputable def begB (n : NetN) (m : Mas) : List Int := offsL n m.bonds m.offsets (nowsL m)
def nowK (m : Mas) (k : Nat) : List Int := (m.cycles.take k).map (·.1)
theorem nowK_succ (m : Mas) {k : Nat} (h : k < m.cycles.length) : nowK m (k + 1) = nowK m k ++ [m.cycles[k].1] := by
  unfold nowK; rw [List.take_succ_eq_append_getElem h, List.map_append]; rfl
theorem nowK_len (m : Mas) {k : Nat} (h : k ≤ m.cycles.length) : (nowK m k).length = k := by simp [nowK]; omega
theorem nowK_all (m : Mas) : nowK m m.cycles.length = nowsL m := by simp [nowK, nowsL]
set_option maxHeartbeats 4000000 in
theorem common_ref (n : NetN) (m : Mas) (hn : NetOk n) (hc : m.cycles.length = n.subs.length) : FnR Tryz.prog 31 (bO n m .nilS .nilS .nilS) [ptrB] (bO n m (.sl 1 (ints (cycB n m))) (.sl 1 (ints (begB n m))) .nilS) (.tup []) tabG := by
  have hb6 : n.subs.length ≤ 6 := hn.2.2.1.1.2
  have q1 := Cycles_ref n m.bonds (nowsL m)
  have q2 := Offsets_fresh n m.bonds m.offsets (nowsL m)
  have hnl := nowK_len m (Nat.le_refl m.cycles.length)
  rw [nowK_all] at hnl
  rw [netV] at q1 q2
  unfold bO bX ptrB
  refine fnR_of mixed Tryz.func31 rfl rfl (by simp [Tryz.ntmps31]) (by simp) fun hwf E => ?_
  clear hwf
  simp (disch := omega) [Tryz.ntmps31, go_sem]
  refine awz_loop mixed (fun k : Nat => ⟨[(11, .int .i64 k), (10, .int .i64 m.cycles.length), (9, .obj 1 m.cycles.length), (2, .obj 512 k), (0, .ptr 0 1 0 0)], obsL 0 (bO n m .nilS .nilS .nilS) ++ [(512, ⟨.arr, 3, 1, ints (nowK m k)⟩)], 1024, [], 60, 5, tabG⟩) (fun k => k ≤ m.cycles.length) (fun k => m.cycles.length - k) 0 ?_ ?_ ?_
  · omega
  · refine Le.mk [(0, some 0), (1, some 1), (2, some 2), (3, some 3), (4, some 4), (512, none)] [0, 1, 2, 3, 4] ⟨rfl, rfl, rfl⟩ ?_ ?_ ?_ <;> simp [go_sem, bO, bX, vsLe_self, votes_pure, bonds_pure, rows_pure, nowK, ints]
  · intro k hk
    have hkl := nowK_len m hk
    simp (disch := omega) [go_sem, bO, bX, hkl]
    refine br_of (fun h => ?_) (fun h => ?_) <;> simp at h
    · have hv := nth_votes h
      have hv2 : ∀ h', (votesV m.cycles)[k]'h' = voteV m.cycles[k] := fun h' => by simp [votesV]
      have hs := nowK_succ m h
      have hkl2 := nowK_len m (k := k + 1) (by omega)
      generalize m.cycles[k] = v at *
      obtain ⟨va, vb, vc⟩ := v
      simp only [voteV] at hv hv2
      simp (disch := omega) [go_sem, hv, hv2, hkl, h]
      rw [hs] at hkl2
      refine ⟨⟨by omega, by omega⟩, ?_⟩
      refine round_of (k + 1) (by omega) (by omega) (Le.mk [(0, some 0), (1, some 1), (2, some 2), (3, some 3), (4, some 4), (512, some 512)] [0, 1, 2, 3, 4, 512] ⟨rfl, rfl, rfl⟩ ?_ ?_ ?_) <;> simp [go_sem, bO, bX, hs, hkl2, ints_app1, vsLe_self, votes_pure, bonds_pure, rows_pure, ints_pure]
    · have hkk : k = m.cycles.length := by omega
      subst hkk
      rw [nowK_all]
      simp (disch := omega) [go_sem]
      refine callK_ref q1 [] [] [3, 512] [] ?_ ?_ ?_ (.inl ⟨rfl, .inr (by simp [go_sem, vsLe_self, votes_pure, bonds_pure, rows_pure, ints_pure, argLe_pures, hnl])⟩) (fun _ => ?_) (by simp [tabG, go_sem])
      · simp [go_sem, vsLe_self, votes_pure, bonds_pure, rows_pure, ints_pure, argLe_pures, hnl]
      · simp [go_sem, vsLe_self, votes_pure, bonds_pure, rows_pure, ints_pure, argLe_pures, hnl]
      · simp [go_sem, vsLe_self, votes_pure, bonds_pure, rows_pure, ints_pure, argLe_pures, hnl]
      simp (disch := omega) [go_sem, vsLe_self, votes_pure, bonds_pure, rows_pure, ints_pure, argLe_pures, hnl]
      refine ⟨.inl (by kernel_rfl), ?_⟩
      refine callK_fresh q2 [2, 3, 512] (by simp [go_sem, argLe_pures, votes_pure, bonds_pure, rows_pure, ints_pure, hnl]) (by simp [go_sem, argLe_pures, votes_pure, bonds_pure, rows_pure, ints_pure, hnl]) (fun _ => ?_) (by simp [tabG, go_sem])
      simp (disch := omega) [go_sem, argLe_pures, votes_pure, bonds_pure, rows_pure, ints_pure, hnl]
      refine ⟨.inl (by kernel_rfl), ?_⟩
      refine Le.mk [(0, some 0), (1, some 1), (2, some 2), (3, some 3), (4, some 4)] [0, 1, 2, 3, 4] ⟨rfl, rfl, rfl⟩ ?_ ?_ ?_ <;> simp [go_sem, vsLe_self, argLe_pures, votes_pure, bonds_pure, rows_pure, ints_pure, cycB, begB]
end Go.Proofs.YtpijmanjjhpkiaaGreatDoor

namespace Go.Proofs.YtpijmanjjhpkiaaGreatDoor
open Go.AM Go.RowKit
set_option maxRecDepth 100000

structure Cmd where
  site : Int
  cycle : Int
  offset : Int
  splits : List Int
def cmdV (c : Cmd) : V := .agg [.int .i64 c.site, .int .i64 c.cycle, .int .i64 c.offset, .sl 1 (ints c.splits)]
theorem cmds_pure (l : List Cmd) : pures (l.map cmdV) := pures_map _ (fun c => by simp [cmdV, go_sem]) l
def subAt (n : NetN) (i : Nat) : Nat := (subN n i).toNat
theorem subAt_ok {n : NetN} (hn : NetOk n) {i : Nat} (h : i < n.sites.length) : subN n i = subAt n i ∧ subAt n i < n.subs.length ∧ ∃ hk : subAt n i < n.subs.length, (i : Int) ∈ n.subs[subAt n i].sites := by
  obtain ⟨k, hk, hx⟩ := subs_in hn h
  have := subN_at hn hk hx
  have e : subAt n i = k := by unfold subAt; rw [this]; rfl
  exact ⟨by rw [this, e], by omega, by omega, by simpa [e] using hx⟩
noncomputable def splN (n : NetN) (m : Mas) (cyc : List Int) (i : Nat) (s : Sit) (v : Int × Int × Int) : Int × Int × Int := (snextN s v.1 v.2.1 v.2.2 (cyc.getD (subAt n i) 0) (m.loads.getD i [])).1
noncomputable def splF (n : NetN) (m : Mas) (cyc : List Int) (i : Nat) (v : Int × Int × Int) : Int × Int × Int := match n.sites[i]? with | some s => splN n m cyc i s v | none => v
noncomputable def splM (n : NetN) (m : Mas) (cyc : List Int) (k : Nat) : Mas := { m with splits := mapK (splF n m cyc) m.splits k }
noncomputable def plnN (n : NetN) (m : Mas) (cyc : List Int) (i : Nat) (s : Sit) : Pln := scaleV s (splN n m cyc i s (m.splits.getD i (0, 0, 0))).1 (cyc.getD (subAt n i) 0)
noncomputable def cmdN (n : NetN) (m : Mas) (cyc beg : List Int) (i : Nat) (s : Sit) : Cmd :=
  ⟨s.id, (plnN n m cyc i s).cycle, ((plnN n m cyc i s).offset + beg.getD (subAt n i) 0).tmod (plnN n m cyc i s).cycle, (plnN n m cyc i s).splits⟩
noncomputable def cmdK (n : NetN) (m : Mas) (cyc beg : List Int) (k : Nat) : List Cmd := (n.sites.mapIdx (cmdN n m cyc beg)).take k
theorem cmdK_succ {n : NetN} {m : Mas} {cyc beg : List Int} {k : Nat} (h : k < n.sites.length) : cmdK n m cyc beg (k + 1) = cmdK n m cyc beg k ++ [cmdN n m cyc beg k n.sites[k]] := by
  unfold cmdK
  rw [List.take_succ_eq_append_getElem (by simpa using h)]
  simp
theorem cmdK_len {n : NetN} {m : Mas} {cyc beg : List Int} {k : Nat} (h : k ≤ n.sites.length) : (cmdK n m cyc beg k).length = k := by simp [cmdK]; omega
/-- What the commands ask. -/
structure CmdOk (n : NetN) (m : Mas) (cyc beg : List Int) : Prop where
  ll : m.loads.length = n.sites.length
  sl : m.splits.length = n.sites.length
  cl : cyc.length = n.subs.length
  bl : beg.length = n.subs.length
  bg : ∀ i, (h : i < beg.length) → 0 ≤ beg[i] ∧ beg[i] ≤ 1048576
  pl : ∀ i, (h : i < n.sites.length) → 1 ≤ (plnN n m cyc i n.sites[i]).cycle ∧ (plnN n m cyc i n.sites[i]).cycle ≤ 1048576 ∧ 0 ≤ (plnN n m cyc i n.sites[i]).offset ∧ (plnN n m cyc i n.sites[i]).offset ≤ 1048576
def coS (n : NetN) (m : Mas) (x y z : V) (ar : List V) (sl : List (Nat × V)) (nx N : Nat) : St :=
  ⟨sl, obsL 0 (bO n m x y z) ++ [(512, ⟨.arr, 42, 4, ar⟩)], nx, [], N, 5, tabG⟩
set_option maxHeartbeats 8000000 in
theorem commands_ref (n : NetN) (m : Mas) (cyc beg : List Int) (hn : NetOk n) (hk : CmdOk n m cyc beg) : FnR Tryz.prog 32 (bO n m (.sl 1 (ints cyc)) (.sl 1 (ints beg)) .nilS) [ptrB]
    (bO n (splM n m cyc n.sites.length) (.sl 1 (ints cyc)) (.sl 1 (ints beg)) (.obj 5 n.sites.length) ++ [⟨.arr, 42, 4, (cmdK n m cyc beg n.sites.length).map cmdV⟩]) (.tup []) tabG := by
  obtain ⟨k1, k2, k3, k4, k5, k6⟩ := hk
  have hz : splM n m cyc 0 = m := by unfold splM; rw [mapK_zero]
  have hb6 : n.sites.length ≤ 12 := hn.2.1.1.2
  unfold bO bX ptrB
  refine fnR_of mixed Tryz.func32 rfl rfl (by simp [Tryz.ntmps32]) (by simp) fun hwf E => ?_
  clear hwf
  simp (disch := omega) [Tryz.ntmps32, go_sem]
  refine awz_loop mixed (fun k : Nat => coS n (splM n m cyc k) (.sl 1 (ints cyc)) (.sl 1 (ints beg)) (.obj 512 k) ((cmdK n m cyc beg k).map cmdV) [(14, .int .i64 k), (13, .int .i64 n.sites.length), (12, .sl 12 (n.sites.map sitV)), (0, .ptr 0 1 0 0)] 1024 114) (fun k => k ≤ n.sites.length) (fun k => n.sites.length - k) 0 ?_ ?_ ?_
  · omega
  · rw [hz]
    refine Le.mk [(0, some 0), (1, some 1), (2, some 2), (3, some 3), (4, some 4), (512, none)] [0, 1, 2, 3, 4] ⟨rfl, rfl, rfl⟩ ?_ ?_ ?_ <;> simp [go_sem, coS, bO, bX, vsLe_self, votes_pure, bonds_pure, rows_pure, cmdK]
  · intro k hk
    have hkl : (splM n m cyc k).splits.length = m.splits.length := mapK_len _ _ _
    have hcl := cmdK_len (m := m) (cyc := cyc) (beg := beg) hk
    have o3 : (splM n m cyc k).loads = m.loads := rfl
    simp (disch := omega) [go_sem, coS, bO, bX, hkl, hcl, o3]
    refine br_of (fun h => ?_) (fun h => ?_) <;> simp at h
    · obtain ⟨s1, s2, _⟩ := subAt_ok hn h
      have hsub := nsub_spec n k
      rw [s1, if_pos ⟨hn, by omega⟩, if_pos hn, if_pos (by omega)] at hsub
      have hkm : k < m.splits.length := by omega
      have hkL : k < m.loads.length := by omega
      have hke : k < (splM n m cyc k).splits.length := by omega
      have hat : (splM n m cyc k).splits[k] = m.splits[k] := mapK_at _ _ _ _
      have hv2 : ∀ h', (votesV (splM n m cyc k).splits)[k]'h' = voteV m.splits[k] := fun h' => by rw [← hat]; simp [votesV]
      have hv : nth (votesV (splM n m cyc k).splits) k = voteV m.splits[k] := by rw [nth_votes hke, hat]
      obtain ⟨t, ht⟩ : ∃ t, subAt n k = t := ⟨_, rfl⟩
      have hcs : t < cyc.length := by omega
      have hbs : t < beg.length := by omega
      have p1 := k6 k h
      have p2 := k5 t hbs
      have hnx := snext_spec n.sites[k] m.splits[k].1 m.splits[k].2.1 m.splits[k].2.2 cyc[t] m.loads[k]
      have hsc := Scale_spec n.sites[k] (splN n m cyc k n.sites[k] m.splits[k]).1 cyc[t]
      have e1 : splN n m cyc k n.sites[k] m.splits[k] = (snextN n.sites[k] m.splits[k].1 m.splits[k].2.1 m.splits[k].2.2 cyc[t] m.loads[k]).1 := by
        unfold splN; simp [ht, hcs, hkL]
      have e2 : plnN n m cyc k n.sites[k] = scaleV n.sites[k] (splN n m cyc k n.sites[k] m.splits[k]).1 cyc[t] := by
        unfold plnN; simp [ht, hcs, hkm]
      have e3 : splF n m cyc k m.splits[k] = splN n m cyc k n.sites[k] m.splits[k] := by unfold splF; simp [h]
      have hst : (votesV (splM n m cyc k).splits).set k (voteV (splN n m cyc k n.sites[k] m.splits[k])) = votesV (splM n m cyc (k + 1)).splits := by
        rw [votes_set, ← e3]
        exact congrArg votesV (mapK_succ (splF n m cyc) m.splits hkm)
      have hcm : cmdN n m cyc beg k n.sites[k] = ⟨n.sites[k].id, (plnN n m cyc k n.sites[k]).cycle, ((plnN n m cyc k n.sites[k]).offset + beg[t]).tmod (plnN n m cyc k n.sites[k]).cycle, (plnN n m cyc k n.sites[k]).splits⟩ := by
        unfold cmdN; simp [ht, hbs]
      have hcs2 := cmdK_succ (m := m) (cyc := cyc) (beg := beg) h
      rw [hcm] at hcs2
      rw [← e2] at hsc
      have hw : ∀ h', (n.sites.map sitV)[k]'h' = sitV n.sites[k] := fun h' => by simp
      have hw2 : nth (n.sites.map sitV) k = sitV n.sites[k] := nth_map h
      have hlr := nth_rows hkL
      have hnc : nth (ints cyc) t = .int .i64 cyc[t] := nth_ints hcs
      have hnb : nth (ints beg) t = .int .i64 beg[t] := nth_ints hbs
      generalize plnN n m cyc k n.sites[k] = p at *
      generalize splN n m cyc k n.sites[k] m.splits[k] = r at *
      rw [ht] at hsub
      generalize snextN n.sites[k] m.splits[k].1 m.splits[k].2.1 m.splits[k].2.2 cyc[t] m.loads[k] = q at *
      generalize m.splits[k] = v at *
      generalize n.sites[k] = s at *
      generalize cyc[t] = ct at *
      generalize beg[t] = bt at *
      obtain ⟨r', re⟩ := q
      simp only at e1
      subst e1
      obtain ⟨va, vb, vc⟩ := v
      obtain ⟨ra, rb, rc⟩ := r
      simp only [voteE, voteV, plnV, sitV] at hv hv2 hw hw2 hst hnx hsc
      rw [netV] at hsub
      simp (disch := omega) [go_sem, hv, hv2, h, hkl, hcl, hw, hw2]
      refine callK_data hsub [] (by simp [go_sem]) (.inl rfl) (by simp [go_sem]) (fun _ => ?_) (by simp [tabG, go_sem])
      simp (disch := omega) [go_sem]
      simp (disch := omega) [go_sem, hv, hv2, h, hkl, hcl, hw, hw2, hnc, hnb, hlr, hcs, hbs, hkm, hkL]
      refine callK_data hnx [] (by simp [go_sem]) (.inl rfl) (by simp [go_sem]) (fun _ => ?_) (by simp [tabG, go_sem])
      simp (disch := omega) [go_sem]
      have hkl3 : (splM n m cyc (k + 1)).splits.length = m.splits.length := mapK_len _ _ _
      have hk3 : k < (votesV (splM n m cyc (k + 1)).splits).length := by rw [votes_len]; omega
      have hv3 : nth (votesV (splM n m cyc (k + 1)).splits) k = V.agg [.int .i64 ra, .int .i64 rb, .int .i64 rc] := by rw [← hst, nth_set, if_pos ⟨rfl, by rw [votes_len]; omega⟩]
      have hv4 : ∀ h', (votesV (splM n m cyc (k + 1)).splits)[k]'h' = V.agg [.int .i64 ra, .int .i64 rb, .int .i64 rc] := fun h' => by
        have := nth_lt hk3
        rw [hv3] at this; exact this.symm
      simp (disch := omega) [go_sem, hv, hv2, h, hkl, hcl, hw, hw2, hnc, hnb, hlr, hcs, hbs, hkm, hkL, hst]
      refine ⟨.inl (by kernel_rfl), ?_⟩
      simp (disch := omega) [go_sem, hv3, hv4, h, hkl3, hcl, hw, hw2, hnc, hnb, hlr, hcs, hbs, hkm, hkL]
      refine callK_data hsc [] (by simp [go_sem]) (.inl rfl) (by simp [go_sem]) (fun _ => ?_) (by simp [tabG, go_sem])
      simp (disch := omega) [go_sem]
      refine ⟨.inl (by kernel_rfl), ?_⟩
      simp (disch := omega) [go_sem, h, hnb, hbs]
      refine ⟨by omega, ⟨by omega, by omega, by omega⟩, .inl (by kernel_rfl), ?_⟩
      have hcl3 := cmdK_len (n := n) (m := m) (cyc := cyc) (beg := beg) (k := k + 1) (by omega)
      have ho1 : (splM n m cyc (k + 1)).bonds = (splM n m cyc k).bonds := rfl
      have ho2 : (splM n m cyc (k + 1)).cycles = (splM n m cyc k).cycles := rfl
      have ho3 : (splM n m cyc (k + 1)).loads = m.loads := rfl
      have ho4 : (splM n m cyc (k + 1)).offsets = (splM n m cyc k).offsets := rfl
      have hmap : (cmdK n m cyc beg (k + 1)).map cmdV = (cmdK n m cyc beg k).map cmdV ++ [.agg [.int .i64 s.id, .int .i64 p.cycle, .int .i64 ((p.offset + bt).tmod p.cycle), .sl 1 (ints p.splits)]] := by rw [hcs2]; simp [cmdV]
      refine round_of (k + 1) (by omega) (by omega) (Le.mk [(0, some 0), (1, some 1), (2, some 2), (3, some 3), (4, some 4), (512, some 512)] [0, 1, 2, 3, 4, 512] ⟨rfl, rfl, rfl⟩ ?_ ?_ ?_) <;> simp [go_sem, coS, bO, bX, hkl3, ho1, ho2, ho3, ho4, hcl, hcl3, hmap, vsLe_self, votes_pure, bonds_pure, rows_pure, ints_pure]
      exact vsLe_append (vsLe_self _ (cmds_pure _)) (by simp [go_sem, ints_pure])
    · have hkk : k = n.sites.length := by omega
      subst hkk
      simp (disch := omega) [go_sem]
      refine Le.mk [(0, some 0), (1, some 1), (2, some 2), (3, some 3), (4, some 4), (5, some 512)] [0, 1, 2, 3, 4, 512] ⟨rfl, rfl, rfl⟩ ?_ ?_ ?_ <;> simp [go_sem, vsLe_self, votes_pure, bonds_pure, rows_pure, ints_pure, cmds_pure, hkl, hcl, o3]
end Go.Proofs.YtpijmanjjhpkiaaGreatDoor

namespace Go.Proofs.YtpijmanjjhpkiaaGreatDoor
open Go.AM Go.RowKit
set_option maxRecDepth 100000

set_option maxHeartbeats 8000000 in
theorem twin_frz (m : Mas) (b1 : m.cycles.length ≤ 1048576) (b2 : m.offsets.length ≤ 1048576) (b3 : m.bonds.length ≤ 1048576) (b4 : m.loads.length ≤ 1048576) (b5 : m.splits.length ≤ 1048576) (b6 : ∀ r ∈ m.loads, r.length ≤ 1048576) :
    FnR Tryz.prog 27 [] [masV m] [⟨.arr, 50, 3, votesV m.cycles⟩, ⟨.arr, 50, 3, votesV m.offsets⟩, ⟨.arr, 103, 2, bondsV m.bonds⟩, ⟨.arr, 46, 1, rows m.loads⟩, ⟨.arr, 50, 3, votesV m.splits⟩]
      (.agg [.obj 0 m.cycles.length, .obj 1 m.offsets.length, .obj 2 m.bonds.length, .obj 3 m.loads.length, .obj 4 m.splits.length]) := by
  have hmv : masV m = .agg [.sl 3 (votesV m.cycles), .sl 3 (votesV m.offsets), .sl 2 (bondsV m.bonds), .sl 1 (rows m.loads), .sl 3 (votesV m.splits)] := rfl
  have q1 := clone_votes m.cycles b1
  have q2 := clone_votes m.offsets b2
  have q3 := clone_bonds m.bonds b3
  have q4 := clone_rows64 m.loads b4
  have q5 := clone_votes m.splits b5
  rw [hmv]
  refine fnR_of mixed Tryz.func27 rfl rfl (by simp [Tryz.ntmps27]) (by simp) fun hwf E => ?_
  clear hwf
  simp (disch := omega) [Tryz.ntmps27, go_sem]
  refine callK_ref q1 [] [] [] [] ?_ ?_ ?_ (.inl ⟨rfl, .inl rfl⟩) (fun _ => ?_)
  · simp [go_sem]
  · simp [go_sem]
  · simp [go_sem]
  simp (disch := omega) [go_sem]
  refine callK_ref q2 [] [] [] [] ?_ ?_ ?_ (.inl ⟨rfl, .inl rfl⟩) (fun _ => ?_)
  · simp [go_sem]
  · simp [go_sem]
  · simp [go_sem]
  simp (disch := omega) [go_sem]
  refine callK_ref q3 [] [] [] [] ?_ ?_ ?_ (.inl ⟨rfl, .inl rfl⟩) (fun _ => ?_)
  · simp [go_sem]
  · simp [go_sem]
  · simp [go_sem]
  simp (disch := omega) [go_sem]
  refine callK_ref q4 [] [] [] [] ?_ ?_ ?_ (.inl ⟨rfl, .inl rfl⟩) (fun _ => ?_)
  · simp [go_sem]
  · simp [go_sem]
  · simp [go_sem]
  simp (disch := omega) [go_sem]
  refine callK_ref q5 [] [] [] [] ?_ ?_ ?_ (.inl ⟨rfl, .inl rfl⟩) (fun _ => ?_)
  · simp [go_sem]
  · simp [go_sem]
  · simp [go_sem]
  simp (disch := omega) [go_sem]
  refine ⟨.inl (by kernel_rfl), ?_⟩
  have e0 : ∀ i, twR m m.loads.length m.loads.length i = rows m.loads := fun i => twR_lo (by omega)
  refine awz_loop mixed (fun k : Nat => twS m [(27, .int .i64 k)] [] m.loads.length m.loads.length 1024) (fun k => k ≤ m.loads.length) (fun k => m.loads.length - k) 0 ?_ ?_ ?_
  · omega
  · refine Le.mk [(16, some 16), (32, some 32), (80, some 80), (128, some 128), (176, some 176), (224, some 224), (272, some 272)] [16, 32, 80, 128, 176, 224, 272] ⟨rfl, rfl, rfl⟩ ?_ ?_ ?_ <;> simp [go_sem, twS, e0]
  · intro k hk
    simp (disch := omega) [go_sem, twS, e0]
    refine br_of (fun h => ?_) (fun h => ?_) <;> simp at h
    · have q6 := clone_i64 m.loads[k] (b6 _ (List.getElem_mem h))
      have hn := nth_rows h
      simp (disch := omega) [go_sem, h, hn]
      refine callK_ref q6 [] [] [] [] ?_ ?_ ?_ (.inl ⟨rfl, .inl rfl⟩) (fun _ => ?_)
      · simp [go_sem, h, hn]
      · simp [go_sem, h, hn]
      · simp [go_sem, h, hn]
      simp (disch := omega) [go_sem, h, hn]
      refine ⟨.inl (by kernel_rfl), ?_⟩
      refine round_of (k + 1) (by omega) (by omega) (Le.mk [(16, some 16), (32, some 32), (80, some 80), (128, some 128), (176, some 176), (224, some 224), (272, some 272)] [16, 32, 80, 128, 176, 224, 272] ⟨rfl, rfl, rfl⟩ ?_ ?_ ?_) <;> simp [go_sem, twS, e0, vsLe_self, ints_pure]
      have hX := set_nth hn (by simp [rows_len, h])
      conv => arg 5; rw [← hX]
      exact vsLe_set (by simp [go_sem, vsLe_self, ints_pure]) (vsLe_self _ (rows_pure _))
    · simp (disch := omega) [go_sem]
      refine Le.mk [(0, some 80), (1, some 128), (2, some 176), (3, some 224), (4, some 272)] [80, 128, 176, 224, 272] ⟨rfl, rfl, rfl⟩ ?_ ?_ ?_ <;> simp [go_sem, vsLe_self, ints_pure]
noncomputable def beM1 (n : NetN) (m : Mas) : Mas := votM n m m.cycles.length
noncomputable def beM2 (n : NetN) (m : Mas) : Mas := bonM n (beM1 n m) n.weds.length
noncomputable def beM3 (n : NetN) (m : Mas) : Mas := offM n (beM2 n m) n.weds.length
noncomputable def beC (n : NetN) (m : Mas) : List Int := cycB n (beM3 n m)
noncomputable def beG (n : NetN) (m : Mas) : List Int := begB n (beM3 n m)
noncomputable def beM5 (n : NetN) (m : Mas) : Mas := splM n (beM3 n m) (beC n m) n.sites.length
noncomputable def beL (n : NetN) (m : Mas) : List Cmd := cmdK n (beM3 n m) (beC n m) (beG n m) n.sites.length
noncomputable def beatM (n : NetN) (m : Mas) : Mas := if masC n m = 0 then beM5 n m else zeroM
noncomputable def beatL (n : NetN) (m : Mas) : List Cmd := if masC n m = 0 then beL n m else []
def beB (n : NetN) (m : Mas) (x y z : V) : List (Nat × AM.Obj) := [(240, ⟨.box, 89, 14, [.agg [.sl 12 (n.sites.map sitV), .sl 2 (n.subs.map subV), .sl 4 (n.weds.map wedV), .int .i64 n.low, .int .i64 n.high, .int .i64 n.step, .obj 256 m.cycles.length, .obj 272 m.offsets.length, .obj 288 m.bonds.length, .sl 1 (rows m.loads), .obj 304 m.splits.length, x, y, z]]⟩),
  (256, ⟨.arr, 50, 3, votesV m.cycles⟩), (272, ⟨.arr, 50, 3, votesV m.offsets⟩), (288, ⟨.arr, 103, 2, bondsV m.bonds⟩), (304, ⟨.arr, 50, 3, votesV m.splits⟩)]
noncomputable def beH (n : NetN) (m : Mas) : Nat → List (Nat × AM.Obj)
  | 0 => beB n m .nilS .nilS .nilS
  | 1 => beB n (beM1 n m) .nilS .nilS .nilS
  | 2 => beB n (beM2 n m) .nilS .nilS .nilS
  | 3 => beB n (beM3 n m) .nilS .nilS .nilS
  | 4 => beB n (beM3 n m) (.sl 1 (ints (beC n m))) (.sl 1 (ints (beG n m))) .nilS
  | _ => beB n (beM5 n m) (.sl 1 (ints (beC n m))) (.sl 1 (ints (beG n m))) (.obj 320 n.sites.length) ++ [(320, ⟨.arr, 42, 4, (beL n m).map cmdV⟩)]
def beFn : V := .agg [.func (.func 28) [] [], .func (.func 29) [] [], .func (.func 30) [] [], .func (.func 31) [] [], .func (.func 32) [] []]
noncomputable def beS (n : NetN) (m : Mas) (k : Nat) : St := ⟨[(24, .int .i64 k), (23, beFn), (8, .ptr 240 1 0 0), (4, .ptr 32 1 0 0)], beH n m k ++ [(32, ⟨.box, 32, 5, [.agg [.nilS, .nilS, .nilS, .nilS, .nilS]]⟩)], 1024, [], 39, 0, tabG⟩
set_option maxHeartbeats 8000000 in
theorem beat_of (n : NetN) (m : Mas) (hC : NetOk n → MasOk n m → CmdOk n (beM3 n m) (beC n m) (beG n m)) : FnD Tryz.prog 10 [netV n, masV m] (.tup [masV (beatM n m), .sl 4 ((beatL n m).map cmdV), .int .i64 (masC n m)]) tabG := by
  have hnv : netV n = .agg [.sl 12 (n.sites.map sitV), .sl 2 (n.subs.map subV), .sl 4 (n.weds.map wedV), .int .i64 n.low, .int .i64 n.high, .int .i64 n.step] := rfl
  have hmv : masV m = .agg [.sl 3 (votesV m.cycles), .sl 3 (votesV m.offsets), .sl 2 (bondsV m.bonds), .sl 1 (rows m.loads), .sl 3 (votesV m.splits)] := rfl
  have qm := mcheck_spec n m
  have qt := twin_frz m
  rw [hnv, hmv] at qm ⊢
  rw [hmv] at qt
  refine fnD_of mixed Tryz.func10 rfl rfl (by simp [Tryz.ntmps10]) fun hwf E => ?_
  simp (disch := omega) [go_sem] at hwf
  simp (disch := omega) [Tryz.ntmps10, go_sem]
  refine callK_data qm [] (by simp [go_sem]) (.inl rfl) (by simp [go_sem]) (fun _ => ?_) (by simp [tabG, go_sem])
  simp (disch := omega) [go_sem]
  by_cases h0 : masC n m = 0
  rotate_left
  · rw [beatM, beatL, if_neg h0, if_neg h0, zeroM_V]
    refine br_of (fun h1 => ?_) (fun h1 => ?_) <;> simp [h0] at h1
    simp (disch := omega) [go_sem, h0]
  rw [beatM, beatL, if_pos h0, if_pos h0, h0]
  obtain ⟨hn, hm⟩ := masC_iff.1 h0
  have hC := hC hn hm
  obtain ⟨⟨l1, l2, l3, l4, l5⟩, m1, m2, m3⟩ := id hm
  obtain ⟨b1, b2⟩ : n.subs.length ≤ 6 ∧ n.sites.length ≤ 12 := ⟨hn.2.2.1.1.2, hn.2.1.1.2⟩
  have b3 : n.weds.length ≤ 8 := hn.2.2.2.1
  have qt := qt (by omega) (by omega) (by omega) (by omega) (by omega) (fun r hr => by
    obtain ⟨i, hi, rfl⟩ := List.getElem_of_mem hr
    have h3 := (m3 i (by omega) hi (by omega)).1
    have h4 := (hn.2.1.2.2 n.sites[i] (List.getElem_mem (by omega))).1
    have h5 := (h4 0 (by omega)).2.2.2.2.1.2
    omega)
  have c1 : (beM1 n m).cycles.length = m.cycles.length := mapK_len _ _ _
  have c2 : (beM2 n m).bonds.length = m.bonds.length := mapK_len _ _ _
  have c3 : (beM3 n m).offsets.length = m.offsets.length := mapK_len _ _ _
  have c5 : (beM5 n m).splits.length = m.splits.length := mapK_len _ _ _
  have v1 := votes_ref n m hn l4 l1
  have v2 := bonds_ref n (beM1 n m) hn (by omega) (by exact l3)
  have v3 := offsets_ref n (beM2 n m) hn l4 (by exact l2)
  have v4 := common_ref n (beM3 n m) hn (by show (beM1 n m).cycles.length = _; omega)
  have v5 := commands_ref n (beM3 n m) (beC n m) (beG n m) hn hC
  rw [← beM1] at v1
  rw [← beM2] at v2
  rw [← beM3] at v3
  rw [← beC, ← beG] at v4
  rw [← beM5, ← beL] at v5
  simp (disch := omega) [go_sem, h0]
  refine callK_ref qt [] [] [] [] ?_ ?_ ?_ (.inl ⟨rfl, .inl rfl⟩) (fun _ => ?_)
  · simp [go_sem]
  · simp [go_sem]
  · simp [go_sem]
  simp (disch := omega) [go_sem]
  refine ⟨.inl (by kernel_rfl), ?_⟩
  refine awz_loop mixed (fun k : Nat => beS n m k) (fun k => k ≤ 5) (fun k => 5 - k) 0 ?_ ?_ ?_
  · omega
  · refine Le.mk [(32, some 32), (240, some 240), (256, some 208), (272, some 209), (288, some 210), (304, some 212)] [32, 240, 208, 209, 210, 212] ⟨rfl, rfl, rfl⟩ ?_ ?_ ?_ <;> simp [go_sem, beS, beH, beB, beFn, vsLe_self, argLe_pures, votes_pure, bonds_pure, rows_pure]
  · intro k hk
    have hcs : k = 0 ∨ k = 1 ∨ k = 2 ∨ k = 3 ∨ k = 4 ∨ k = 5 := by omega
    unfold bO bX ptrB at v1 v2 v3 v4 v5
    have t1 : arrOfT Tryz.prog 91 = some (5, 90) := by kernel_rfl
    have t2 : isRowT Tryz.prog 90 = some false := by kernel_rfl
    have t3 : Tryz.prog.cellsOf 90 = 1 := by kernel_rfl
    rcases hcs with rfl | rfl | rfl | rfl | rfl | rfl
    · simp (disch := omega) [go_sem, beS, beH, beB, beFn, t1, t2, t3]
      refine callK_ref v1 [(0, some 240), (1, some 256), (2, some 272), (3, some 288), (4, some 304)] [240, 256, 272, 288, 304] [] [] ?_ ?_ ?_ (.inl ⟨rfl, .inl rfl⟩) (fun _ => ?_) (by simp [tabG, go_sem])
      · simp [go_sem, vsLe_self, votes_pure, bonds_pure, rows_pure]
      · simp [go_sem, vsLe_self, votes_pure, bonds_pure, rows_pure]
      · simp [go_sem, vsLe_self, votes_pure, bonds_pure, rows_pure]
      simp (disch := omega) [go_sem, vsLe_self, votes_pure, bonds_pure, rows_pure]
      refine round_of 1 (by omega) (by omega) (Le.mk [(32, some 32), (240, some 240), (256, some 256), (272, some 272), (288, some 288), (304, some 304)] [32, 240, 256, 272, 288, 304] ⟨rfl, rfl, rfl⟩ ?_ ?_ ?_) <;> simp [go_sem, beS, beH, beB, beFn, vsLe_self, votes_pure, bonds_pure, rows_pure]
    · simp (disch := omega) [go_sem, beS, beH, beB, beFn, t1, t2, t3]
      refine callK_ref v2 [(0, some 240), (1, some 256), (2, some 272), (3, some 288), (4, some 304)] [240, 256, 272, 288, 304] [] [] ?_ ?_ ?_ (.inl ⟨rfl, .inl rfl⟩) (fun _ => ?_) (by simp [tabG, go_sem])
      · simp [go_sem, vsLe_self, votes_pure, bonds_pure, rows_pure]
      · simp [go_sem, vsLe_self, votes_pure, bonds_pure, rows_pure]
      · simp [go_sem, vsLe_self, votes_pure, bonds_pure, rows_pure]
      simp (disch := omega) [go_sem, vsLe_self, votes_pure, bonds_pure, rows_pure]
      refine round_of 2 (by omega) (by omega) (Le.mk [(32, some 32), (240, some 240), (256, some 256), (272, some 272), (288, some 288), (304, some 304)] [32, 240, 256, 272, 288, 304] ⟨rfl, rfl, rfl⟩ ?_ ?_ ?_) <;> simp [go_sem, beS, beH, beB, beFn, vsLe_self, votes_pure, bonds_pure, rows_pure]
    · simp (disch := omega) [go_sem, beS, beH, beB, beFn, t1, t2, t3]
      refine callK_ref v3 [(0, some 240), (1, some 256), (2, some 272), (3, some 288), (4, some 304)] [240, 256, 272, 288, 304] [] [] ?_ ?_ ?_ (.inl ⟨rfl, .inl rfl⟩) (fun _ => ?_) (by simp [tabG, go_sem])
      · simp [go_sem, vsLe_self, votes_pure, bonds_pure, rows_pure]
      · simp [go_sem, vsLe_self, votes_pure, bonds_pure, rows_pure]
      · simp [go_sem, vsLe_self, votes_pure, bonds_pure, rows_pure]
      simp (disch := omega) [go_sem, vsLe_self, votes_pure, bonds_pure, rows_pure]
      refine round_of 3 (by omega) (by omega) (Le.mk [(32, some 32), (240, some 240), (256, some 256), (272, some 272), (288, some 288), (304, some 304)] [32, 240, 256, 272, 288, 304] ⟨rfl, rfl, rfl⟩ ?_ ?_ ?_) <;> simp [go_sem, beS, beH, beB, beFn, vsLe_self, votes_pure, bonds_pure, rows_pure]
    · simp (disch := omega) [go_sem, beS, beH, beB, beFn, t1, t2, t3]
      refine callK_ref v4 [(0, some 240), (1, some 256), (2, some 272), (3, some 288), (4, some 304)] [240, 256, 272, 288, 304] [] [] ?_ ?_ ?_ (.inl ⟨rfl, .inl rfl⟩) (fun _ => ?_) (by simp [tabG, go_sem])
      · simp [go_sem, vsLe_self, votes_pure, bonds_pure, rows_pure, ints_pure]
      · simp [go_sem, vsLe_self, votes_pure, bonds_pure, rows_pure, ints_pure]
      · simp [go_sem, vsLe_self, votes_pure, bonds_pure, rows_pure, ints_pure]
      simp (disch := omega) [go_sem, vsLe_self, votes_pure, bonds_pure, rows_pure, ints_pure]
      refine round_of 4 (by omega) (by omega) (Le.mk [(32, some 32), (240, some 240), (256, some 256), (272, some 272), (288, some 288), (304, some 304)] [32, 240, 256, 272, 288, 304] ⟨rfl, rfl, rfl⟩ ?_ ?_ ?_) <;> simp [go_sem, beS, beH, beB, beFn, vsLe_self, votes_pure, bonds_pure, rows_pure, ints_pure]
    · simp (disch := omega) [go_sem, beS, beH, beB, beFn, t1, t2, t3]
      refine callK_ref v5 [(0, some 240), (1, some 256), (2, some 272), (3, some 288), (4, some 304)] [240, 256, 272, 288, 304] [] [] ?_ ?_ ?_ (.inl ⟨rfl, .inl rfl⟩) (fun _ => ?_) (by simp [tabG, go_sem])
      · simp [go_sem, vsLe_self, votes_pure, bonds_pure, rows_pure, ints_pure]
      · simp [go_sem, vsLe_self, votes_pure, bonds_pure, rows_pure, ints_pure]
      · simp [go_sem, vsLe_self, votes_pure, bonds_pure, rows_pure, ints_pure]
      simp (disch := omega) [go_sem, vsLe_self, votes_pure, bonds_pure, rows_pure, ints_pure]
      refine round_of 5 (by omega) (by omega) (Le.mk [(32, some 32), (240, some 240), (256, some 256), (272, some 272), (288, some 288), (304, some 304), (320, some 1109)] [32, 240, 256, 272, 288, 304, 1109] ⟨rfl, rfl, rfl⟩ ?_ ?_ ?_) <;> simp [go_sem, beS, beH, beB, beFn, vsLe_self, votes_pure, bonds_pure, rows_pure, ints_pure, cmds_pure]
      trace_state
    · simp (disch := omega) [go_sem, beS, beH, beB, beFn]
      refine ⟨.inl (by kernel_rfl), ?_⟩
      have c6 : (beL n m).length = n.sites.length := cmdK_len (Nat.le_refl _)
      simp (disch := omega) [go_sem, masV, c6]
      exact ⟨⟨argLe_pures (votes_pure _), argLe_pures (votes_pure _), argLe_pures (bonds_pure _), argLe_pures (votes_pure _)⟩, argLe_pures (cmds_pure _)⟩
end Go.Proofs.YtpijmanjjhpkiaaGreatDoor

namespace Go.Proofs.YtpijmanjjhpkiaaGreatDoor
open Go.AM Go.RowKit
set_option maxRecDepth 100000

theorem mapK_get {α : Type} (f : Nat → α → α) (l : List α) {k i : Nat} (h : i < l.length) (hk : i < k) (h2 : i < (mapK f l k).length) : (mapK f l k)[i] = f i l[i] := by simp [mapK, hk]
theorem heard_keep {now w many wish need : Int} (hm : 0 ≤ many) (hn : need ≤ 1048576) : ((heardN now w many wish need).1 = now ∨ (heardN now w many wish need).1 = wish) ∧ ((heardN now w many wish need).2.1 = now ∨ (heardN now w many wish need).2.1 = wish) ∧ 0 ≤ (heardN now w many wish need).2.2 ∧ (heardN now w many wish need).2.2 ≤ 1048576 := by
  unfold heardN
  (repeat' split) <;> simp <;> omega
theorem span_iff {v : Int × Int × Int} {m : Int} : spanN v m = true ↔ (0 ≤ v.1 ∧ v.1 < m) ∧ (0 ≤ v.2.1 ∧ v.2.1 ≤ 1048576) ∧ 0 ≤ v.2.2 ∧ v.2.2 ≤ 1048576 := by
  simp [spanN]; omega
theorem span_zero {m : Int} (h : 1 ≤ m) : spanN (0, 0, 0) m = true := span_iff.2 ⟨⟨by simp, by simp; omega⟩, by simp, by simp⟩
theorem span_heard {v : Int × Int × Int} {m wish need : Int} (h : spanN v m = true) (hm : m ≤ 1048577) (hw : 0 ≤ wish ∧ wish < m) (hn : need ≤ 1048576) : spanN (heardN v.1 v.2.1 v.2.2 wish need) m = true := by
  have h := span_iff.1 h
  obtain ⟨h1, h2, h3⟩ := heard_keep (now := v.1) (w := v.2.1) (wish := wish) h.2.2.1 hn
  exact span_iff.2 ⟨by omega, by omega, h3⟩
theorem span_tally {v : Int × Int × Int} {m wish need : Int} (h : spanN v m = true) (hm : 1 ≤ m ∧ m ≤ 1048577) (hw : 0 ≤ wish ∧ wish < m) (hn : need ≤ 1048576) : spanN (tallyN v.1 v.2.1 v.2.2 wish need).1 m = true := by
  unfold tallyN
  split
  · exact span_zero hm.1
  · exact span_heard h hm.2 hw hn
theorem highX_in {l : List Int} (h : loadedN l = 0) : 0 ≤ highX l ∧ highX l ≤ 65536 := by
  obtain ⟨h1, h2⟩ := loadedN_zero h
  unfold highX
  split
  · rename_i hc
    obtain ⟨b1, b2, b3⟩ := hiK_bound l l.length
    have h0 : 0 < l.length := List.length_pos_iff.2 hc.2
    have hi : (hiK l l.length).toNat < l.length := by have := b3 (by omega); omega
    have := h2 _ hi
    simpa [hi] using this
  · omega
theorem site_at {n : NetN} (hn : NetOk n) {i : Nat} (h : i < n.sites.length) : SiteOk n.sites[i] ∧ n.sites[i].low ≤ n.low ∧ n.high ≤ n.sites[i].high := hn.2.1.2.2 _ (List.getElem_mem h)
theorem crit_row {n : NetN} {m : Mas} (hn : NetOk n) (hl : lensM n m) (hL : ∀ i, mayL n m i) {i : Nat} (h : i < n.subs.length) : ∃ c, ∃ hc : c < n.sites.length, n.subs[i].critical = c ∧ ∃ h2 : c < m.loads.length, critN n m i = m.loads[c] ∧ loadedN (critN n m i) = 0 := by
  obtain ⟨h1, h2⟩ := crit_ok hn h
  obtain ⟨c, hc⟩ : ∃ c : Nat, n.subs[i].critical = c := ⟨_, (Int.toNat_of_nonneg h1).symm⟩
  have h3 : c < n.sites.length := by omega
  obtain ⟨l1, l2, l3, l4, l5⟩ := hl
  have h4 : c < m.loads.length := by omega
  exact ⟨c, h3, hc, h4, critN_at h hc h4, by rw [critN_at h hc h4]; exact (hL c h3 h4 (by omega)).2.1⟩
theorem nextV_keep {n : NetN} {v : Int × Int × Int} {load : Int} (hn : NetOk n) (hs : spanN v 1048577 = true) (hc : v.1 ∈ cycN n (cycK n + 1)) (hl : 0 ≤ load ∧ load ≤ 65536) : nextV n v load = heardN v.1 v.2.1 v.2.2 (towards v.1 (wishN n load) n.step) 3 ∧ spanN (nextV n v load) 1048577 = true ∧ (nextV n v load).1 ∈ cycN n (cycK n + 1) := by
  have h := span_iff.1 hs
  have hC : nextC n v load = 0 := nextC_ok hn ⟨by simp [inM]; omega, hc⟩ hl
  have ht := towards_mem hn.1 hc (wish_mem n load)
  have hb := cyc_bound hn.1 ht
  rw [nextV_ok hC]
  refine ⟨rfl, span_heard hs (by omega) (by omega) (by omega), ?_⟩
  rcases (heard_keep (now := v.1) (w := v.2.1) (wish := towards v.1 (wishN n load) n.step) (need := 3) h.2.2.1 (by omega)).1 with e | e <;> rw [e] <;> assumption
theorem votM_ok {n : NetN} {m : Mas} (hn : NetOk n) (h : MasOk n m) : MasOk n (beM1 n m) := by
  obtain ⟨hl, hC, hO, hL⟩ := h
  have hlen : (beM1 n m).cycles.length = m.cycles.length := mapK_len _ _ _
  refine ⟨⟨by rw [hlen]; exact hl.1, hl.2⟩, fun i hi => ?_, hO, hL⟩
  have hi2 : i < m.cycles.length := by omega
  have e : (beM1 n m).cycles[i] = votF n m i m.cycles[i] := mapK_get _ _ hi2 hi2 hi
  obtain ⟨c, _, _, _, _, hx⟩ := crit_row hn hl hL (by rw [← hl.1]; exact hi2)
  rw [e]
  exact (nextV_keep hn (hC i hi2).1 (hC i hi2).2 (highX_in hx)).2
theorem bondN_in {n : NetN} {w : Nat} {b : Bool × Int} {x y : Int} (hn : NetOk n) (hw : w < n.weds.length) (hb : inM b.2 = true) : inM (bondN n w b x y).2 = true := by
  unfold bondN
  split
  · have hv := (hn.2.2.2.2.2 _ (List.getElem_mem hw)).2.2.2.1
    have e : votesAt n w = n.weds[w].votes := by simp [votesAt, hw]
    rw [e]
    have hb := inM_iff.1 hb
    unfold laterB
    (repeat' split) <;> simp [inM] <;> omega
  · rfl
theorem bonM_ok {n : NetN} {m : Mas} (hn : NetOk n) (h : MasOk n m) : MasOk n (bonM n m n.weds.length) := by
  obtain ⟨hl, hC, hO, hL⟩ := h
  have hlen : (bonM n m n.weds.length).bonds.length = m.bonds.length := mapK_len _ _ _
  refine ⟨⟨hl.1, hl.2.1, by rw [hlen]; exact hl.2.2.1, hl.2.2.2⟩, hC, fun i h0 h1 h2 => ?_, hL⟩
  have h3 : i < m.bonds.length := by omega
  have e : (bonM n m n.weds.length).bonds[i] = bonF n m i m.bonds[i] := mapK_get _ _ h3 h0 h2
  rw [e]
  exact ⟨(hO i h0 h1 h3).1, bondN_in hn h0 (hO i h0 h1 h3).2⟩
theorem offs_span {n : NetN} {w : Nat} {v : Int × Int × Int} {l : List Int} (hn : NetOk n) (hw : w < n.weds.length) (hv : spanN v (n.weds[w].offsets.length : Int) = true) : spanN (oNextV n w v l).1 (n.weds[w].offsets.length : Int) = true := by
  have h8 : (1 ≤ n.weds[w].offsets.length ∧ n.weds[w].offsets.length ≤ 8) := (hn.2.2.2.2.2 _ (List.getElem_mem hw)).2.2.2.2.1
  have hvv := (hn.2.2.2.2.2 _ (List.getElem_mem hw)).2.2.2.1
  have e : votesAt n w = n.weds[w].votes := by simp [votesAt, hw]
  have ho : offsN n w = n.weds[w].offsets := offs_at hw
  have hz := span_zero (m := (n.weds[w].offsets.length : Int)) (by omega)
  unfold oNextV
  split
  · split
    · have hb := owishI_bound (n := n) (w := w) (l := l) (by rw [ho]; exact h8.1) (by rw [ho]; exact h8.2)
      rw [ho] at hb
      exact span_tally hv (by omega) hb (by rw [e]; omega)
    · exact hz
  · exact hz
theorem offM_ok {n : NetN} {m : Mas} (hn : NetOk n) (h : MasOk n m) : MasOk n (offM n m n.weds.length) := by
  obtain ⟨hl, hC, hO, hL⟩ := h
  have hlen : (offM n m n.weds.length).offsets.length = m.offsets.length := mapK_len _ _ _
  refine ⟨⟨hl.1, by rw [hlen]; exact hl.2.1, hl.2.2⟩, hC, fun i h0 h1 h2 => ?_, hL⟩
  have h3 : i < m.offsets.length := by omega
  have e : (offM n m n.weds.length).offsets[i] = offF n m i m.offsets[i] := mapK_get _ _ h3 h0 h1
  rw [e]
  exact ⟨offs_span hn h0 (hO i h0 h3 h2).1, (hO i h0 h3 h2).2⟩
theorem manyN_max (s : Sit) : maxI 1 (s.plans.length : Int) = (manyN s : Int) := by unfold maxI manyN; (repeat' split) <;> omega
theorem spl_span {s : Sit} {v : Int × Int × Int} {c : Int} {l : List Int} (hs : SiteOk s) (hv : spanN v (maxI 1 (s.plans.length : Int)) = true) : spanN (snextN s v.1 v.2.1 v.2.2 c l).1 (maxI 1 (s.plans.length : Int)) = true := by
  have hm := manyN_le hs
  rw [manyN_max] at hv ⊢
  unfold snextN
  split
  · rename_i h
    obtain ⟨hOk, hw, hl⟩ := wish26_zero h
    obtain ⟨e1, e2⟩ := wish26_ok hOk hw hl
    obtain ⟨k, h1, h2, _⟩ := best_law s v.1.toNat c l (by have := hw.1; omega)
    rw [e2, h2]
    exact span_tally hv (by omega) (by omega) (by omega)
  · exact span_zero (by omega)
theorem splM_ok {n : NetN} {m : Mas} {cyc : List Int} (hn : NetOk n) (h : MasOk n m) : MasOk n (splM n m cyc n.sites.length) := by
  obtain ⟨hl, hC, hO, hL⟩ := h
  have hlen : (splM n m cyc n.sites.length).splits.length = m.splits.length := mapK_len _ _ _
  refine ⟨⟨hl.1, hl.2.1, hl.2.2.1, hl.2.2.2.1, by rw [hlen]; exact hl.2.2.2.2⟩, hC, hO, fun i h0 h1 h2 => ?_⟩
  have h3 : i < m.splits.length := by omega
  have e : (splM n m cyc n.sites.length).splits[i] = splF n m cyc i m.splits[i] := mapK_get _ _ h3 h0 h2
  have e2 : splF n m cyc i m.splits[i] = splN n m cyc i n.sites[i] m.splits[i] := by unfold splF; simp [h0]
  rw [e, e2]
  obtain ⟨q1, q2, q3⟩ := hL i h0 h1 h3
  exact ⟨q1, q2, spl_span (site_at hn h0).1 q3⟩
theorem beM3_ok {n : NetN} {m : Mas} (hn : NetOk n) (h : MasOk n m) : MasOk n (beM3 n m) := offM_ok hn (bonM_ok hn (votM_ok hn h))
theorem beM5_ok {n : NetN} {m : Mas} (hn : NetOk n) (h : MasOk n m) : MasOk n (beM5 n m) := splM_ok hn (beM3_ok hn h)
end Go.Proofs.YtpijmanjjhpkiaaGreatDoor

namespace Go.Proofs.YtpijmanjjhpkiaaGreatDoor
open Go.AM Go.RowKit
set_option maxRecDepth 100000

theorem cyc_range {n : NetN} (h : TimedOk n) {c : Int} (hc : c ∈ cycN n (cycK n + 1)) : n.low ≤ c ∧ c ≤ n.high := by
  obtain ⟨i, hi, rfl⟩ := mem_cyc.1 hc
  have := h.at_bound (i := i) (by omega)
  have := h.at.2 hi
  have h2 := h.q.1
  have h0 : n.step * (i : Int) ≤ n.step * (cycK n : Int) := Int.mul_le_mul_of_nonneg_left (by omega) (by have := h.2.2.1.1; omega)
  have h3 : 0 ≤ n.step * (i : Int) := Int.mul_nonneg (by have := h.2.2.1.1; omega) (by omega)
  unfold cycAt
  omega
theorem scale_cyc {s : Sit} {i : Nat} {c : Int} (h : s.low ≤ c ∧ c ≤ s.high) : (scaleN s i c).cycle = c := by
  have hc : ∀ p : Pln, p.cycle = c → cycC s p = c := fun p hp => by unfold cycC; rw [hp]; (repeat' split) <;> omega
  unfold scaleN clampN
  simp only
  split <;> exact hc _ rfl
theorem bonded_zero {n : NetN} {l : List (Bool × Int)} (hn : NetOk n) (hl : l.length = n.weds.length) (h : ∀ b ∈ l, inM b.2 = true) : bondedC n l = 0 := by
  unfold bondedC
  rw [if_pos hn, if_neg (by omega), if_neg]
  intro hc
  obtain ⟨b, hb, h2⟩ := List.any_eq_true.1 hc
  rw [h b hb] at h2; cases h2
theorem cycled_zero {n : NetN} {cs : List Int} (hl : cs.length = n.subs.length) (h : ∀ c ∈ cs, c ∈ cycN n (cycK n + 1)) : cycledC n cs = 0 := by
  unfold cycledC
  rw [if_neg (by omega), if_neg]
  intro hc
  obtain ⟨b, hb, h2⟩ := List.any_eq_true.1 hc
  simp [h b hb] at h2
/-- What is told by a master that may be. -/
structure BeOk (n : NetN) (m : Mas) : Prop where
  oC : offsC n m.bonds m.offsets (nowsL m) = 0
  cE : cycB n m = commonG (groupsN n m.bonds) (nowsL m)
  gE : begB n m = beginN n m.bonds m.offsets (commonG (groupsN n m.bonds) (nowsL m)) (groupsN n m.bonds)
  bC : bondedC n m.bonds = 0
  mem : ∀ c ∈ nowsL m, c ∈ cycN n (cycK n + 1)
theorem be_ok {n : NetN} {m : Mas} (hn : NetOk n) (h : MasOk n m) : BeOk n m := by
  obtain ⟨⟨l1, l2, l3, l4, l5⟩, hC, hO, hL⟩ := h
  have hb : bondedC n m.bonds = 0 := bonded_zero hn l3 fun b hb => by
    obtain ⟨i, hi, rfl⟩ := List.getElem_of_mem hb
    exact (hO i (by omega) (by omega) hi).2
  have hmem : ∀ c ∈ nowsL m, c ∈ cycN n (cycK n + 1) := fun c hc => by
    obtain ⟨v, hv, rfl⟩ := List.mem_map.1 hc
    obtain ⟨i, hi, rfl⟩ := List.getElem_of_mem hv
    exact (hC i hi).2
  have hcy : cycledC n (nowsL m) = 0 := cycled_zero (by simp [nowsL, l1]) hmem
  have hvo : votedOk n m.offsets := fun i hi => by
    have := span_iff.1 (hO i (by omega) hi (by omega)).1
    unfold votedAt wedAt
    simp [hi, show i < n.weds.length by omega]
    exact this.1
  have hoc : offsC n m.bonds m.offsets (nowsL m) = 0 := by unfold offsC; rw [if_pos hb, if_neg (by omega), if_pos hvo, hcy]
  have hcc : cyclesC n m.bonds (nowsL m) = 0 := by unfold cyclesC; rw [if_pos hb, hcy]
  exact ⟨hoc, by unfold cycB cyclesL; rw [if_pos hcc], by unfold begB offsL; rw [if_pos hoc], hb, hmem⟩
theorem be_parts {n : NetN} {m : Mas} (h : BeOk n m) : PartsOk n m.bonds (nowsL m) (groupsN n m.bonds) (cycB n m) (begB n m) := by
  have := parts_ok h.oC
  rw [← h.cE] at this
  rw [h.gE, ← h.cE]
  exact this
theorem getD_lt {l : List Int} {i : Nat} (h : i < l.length) (a b : Int) : l.getD i a = l.getD i b := by simp [h]
theorem be_cyc {n : NetN} {m : Mas} (hn : NetOk n) (h : BeOk n m) {i : Nat} (hi : i < n.subs.length) : (cycB n m).getD i 0 ∈ cycN n (cycK n + 1) := by
  have hp := be_parts h
  obtain ⟨k, hk, _, h2⟩ := hp.has i hi
  rw [getD_lt (by rw [hp.cl]; exact hi) 0 1, ← h2]
  have : k < (nowsL m).length := by rw [hp.sl]; exact hk
  refine h.mem _ ?_
  simp [this]
theorem pln_at {n : NetN} {m : Mas} (hn : NetOk n) (h : MasOk n m) {i : Nat} (hi : i < n.sites.length) : plnN n m (cycB n m) i n.sites[i] = scaleN n.sites[i] (splN n m (cycB n m) i n.sites[i] (m.splits.getD i (0, 0, 0))).1.toNat ((cycB n m).getD (subAt n i) 0) ∧
    Fits n.sites[i] (plnN n m (cycB n m) i n.sites[i]) ∧ (plnN n m (cycB n m) i n.sites[i]).cycle = (cycB n m).getD (subAt n i) 0 ∧ 0 ≤ (splN n m (cycB n m) i n.sites[i] (m.splits.getD i (0, 0, 0))).1 := by
  obtain ⟨hs, hlo, hhi⟩ := site_at hn hi
  have hb := be_ok hn h
  obtain ⟨_, hsub, _⟩ := subAt_ok hn hi
  have hc := be_cyc hn hb hsub
  have hr := cyc_range hn.1 hc
  have hcb := cyc_bound hn.1 hc
  have h5 : i < m.splits.length := by have := h.1.2.2.2.2; omega
  have hsp := spl_span (c := (cycB n m).getD (subAt n i) 0) (l := m.loads.getD i []) hs (h.2.2.2 i hi (by have := h.1.2.2.2.1; omega) h5).2.2
  rw [manyN_max] at hsp
  have hsp := span_iff.1 hsp
  have hget : m.splits.getD i (0, 0, 0) = m.splits[i] := by simp [h5]
  have hok : scaleOk n.sites[i] (splN n m (cycB n m) i n.sites[i] (m.splits.getD i (0, 0, 0))).1 ((cycB n m).getD (subAt n i) 0) := ⟨by unfold splN; rw [hget]; exact hsp.1, by omega, by omega⟩
  have hz := scale_zero hs hok
  unfold plnN
  refine ⟨hz.2, ?_, ?_, hok.1.1⟩
  · rw [hz.2]; exact scale_fits _ _ hs
  · rw [hz.2]; exact scale_cyc (by omega)
theorem cmd_ok {n : NetN} {m : Mas} (hn : NetOk n) (h : MasOk n m) : CmdOk n m (cycB n m) (begB n m) := by
  have hb := be_ok hn h
  have hp := be_parts hb
  refine ⟨h.1.2.2.2.1, h.1.2.2.2.2, hp.cl, hp.ol, fun i hi => ?_, fun i hi => ?_⟩
  · rw [hp.ol] at hi
    have h1 := hp.og i hi
    have hc := be_cyc hn hb hi
    rw [getD_lt (by rw [hp.cl]; exact hi) 0 1] at hc
    have hcb := cyc_bound hn.1 hc
    have : i < (begB n m).length := by rw [hp.ol]; exact hi
    have e : (begB n m).getD i 0 = (begB n m)[i] := by simp [this]
    rw [e] at h1
    omega
  · obtain ⟨_, hf, hc, _⟩ := pln_at hn h hi
    obtain ⟨_, hsub, _⟩ := subAt_ok hn hi
    have hcb := cyc_bound hn.1 (be_cyc hn hb hsub)
    have := hf.2.1
    omega
theorem beat_spec (n : NetN) (m : Mas) : FnD Tryz.prog 10 [netV n, masV m] (.tup [masV (beatM n m), .sl 4 ((beatL n m).map cmdV), .int .i64 (masC n m)]) tabG :=
  beat_of n m fun hn hm => cmd_ok hn (beM3_ok hn hm)
theorem hearM_keep {n : NetN} {m : Mas} {site : Int} {l : List Int} (hn : NetOk n) (hm : MasOk n m) (h : hearC n m site l = 0) : MasOk n (hearM n m site l) := by
  have h0 : masC n m = 0 := masC_ok hn hm
  have hp : 0 ≤ placeS n site := Classical.byContradiction fun hp => by rw [hearC_no h0 hp] at h; cases h
  obtain ⟨t, ht⟩ : ∃ t : Nat, placeS n site = t := ⟨_, (Int.toNat_of_nonneg hp).symm⟩
  rw [hearM_ok h ht]
  have hlen : l.length = (m.loads.getD t []).length := Classical.byContradiction fun hx => by rw [hearC_many h0 ht hx] at h; cases h
  have hfx : l.all fixI = true := Classical.byContradiction fun hx => by rw [hearC_fix h0 ht hlen hx] at h; cases h
  obtain ⟨⟨l1, l2, l3, l4, l5⟩, hC, hO, hL⟩ := hm
  refine ⟨⟨l1, l2, l3, by simp [l4], l5⟩, hC, hO, fun i a1 a2 a3 => ?_⟩
  have a4 : i < m.loads.length := by simpa using a2
  obtain ⟨q1, q2, q3⟩ := hL i a1 a4 a3
  show ((m.loads.set t _)[i]).length = _ ∧ loadedN ((m.loads.set t _)[i]) = 0 ∧ _
  rw [List.getElem_set]
  by_cases e : t = i
  · subst e
    rw [if_pos rfl]
    have hg : m.loads.getD t [] = m.loads[t] := by simp [a4]
    rw [hg] at hlen ⊢
    have hz := loadedN_zero q2
    refine ⟨by simp [hlen, q1], loadedN_ok (by simp; omega) (fun j hj => ?_), q3⟩
    simp only [List.getElem_zipWith]
    have j1 : j < m.loads[t].length := by simp at hj; omega
    have j2 : j < l.length := by simp at hj; omega
    have f1 := hz.2 j j1
    have f2 : fixI l[j] = true := List.all_eq_true.1 hfx _ (List.getElem_mem j2)
    have := mixN_ok f1 (by simpa [fixI] using f2)
    simpa [fixI] using this
  · rw [if_neg e]
    exact ⟨q1, q2, q3⟩
end Go.Proofs.YtpijmanjjhpkiaaGreatDoor

namespace Go.Proofs.YtpijmanjjhpkiaaGreatDoor
open Go.AM Go.RowKit
set_option maxRecDepth 100000

structure RestI (n : NetN) (m : Mas) : Prop where
  ok : MasOk n m
  cy : ∀ v ∈ m.cycles, v.1 = n.low
  sp : ∀ v ∈ m.splits, v.1 = 0
  lo : ∀ r ∈ m.loads, ∀ x ∈ r, x = 0
theorem zeros_at {l : List Int} (h : ∀ x ∈ l, x = 0) (j : Nat) : l.getD j 0 = 0 := by
  by_cases hj : j < l.length
  · simp [hj]; exact h _ (List.getElem_mem hj)
  · simp [hj]
theorem highX_zeros {l : List Int} (h : ∀ x ∈ l, x = 0) : highX l = 0 := by
  unfold highX; split
  · exact zeros_at h _
  · rfl
theorem wishN_zero (n : NetN) : wishN n 0 = n.low := by
  have : wishI n 0 = 0 := by unfold wishI; simp
  unfold wishN cycAt; rw [this]; simp
theorem mostK_zeros (p q : Pln) {l : List Int} (h : ∀ x ∈ l, x = 0) : ∀ k, mostK p q l k = 0
  | 0 => rfl
  | k + 1 => by
    have e : shareN p q l k = 0 := by unfold shareN; rw [zeros_at h]; simp
    rw [mostK, mostK_zeros p q h k, e]; rfl
theorem best_zeros (s : Sit) (v : Nat) (c : Int) {l : List Int} (h : ∀ x ∈ l, x = 0) (hv : v < manyN s) : bestN s v c l = v := by
  obtain ⟨n, _, h1, ⟨_, h2⟩, _⟩ := best_law s v c l hv
  rw [h1, h2 (by unfold wst; rw [mostK_zeros _ _ h, mostK_zeros _ _ h])]
theorem tally_now (v x y k : Int) : (tallyN v x y v k).1.1 = v ∨ (tallyN v x y v k).1 = (0, 0, 0) := by
  unfold tallyN; split
  · exact .inr rfl
  · exact .inl (by rw [heardN_eq rfl])
theorem snext_zeros {s : Sit} {x y c : Int} {l : List Int} (h : ∀ x ∈ l, x = 0) : (snextN s 0 x y c l).1.1 = 0 := by
  unfold snextN
  split
  · rename_i hz
    obtain ⟨hOk, hw, hl⟩ := wish26_zero hz
    rw [(wish26_ok hOk hw hl).2, show (0 : Int).toNat = 0 from rfl, best_zeros s 0 c h (by have := manyN_le hOk; omega)]
    rcases tally_now 0 x y 3 with e | e
    · exact e
    · exact congrArg Prod.fst e
  · rfl
theorem start_ok {n : NetN} (hn : NetOk n) : RestI n (startM n) := by
  have hlow : n.low ∈ cycN n (cycK n + 1) := mem_cyc.2 ⟨0, by omega, by simp [cycAt]⟩
  have hb := cyc_bound hn.1 hlow
  refine ⟨⟨⟨by simp [startM], by simp [startM], by simp [startM], by simp [startM], by simp [startM]⟩, fun i hi => ?_, fun i h0 h1 h2 => ?_, fun i h0 h1 h2 => ?_⟩, fun v hv => ?_, fun v hv => ?_, fun r hr x hx => ?_⟩
  · simp only [startM, List.getElem_replicate]
    exact ⟨span_iff.2 ⟨by simp only; omega, by simp only; omega, by simp⟩, hlow⟩
  · simp only [startM, List.getElem_replicate]
    have := (hn.2.2.2.2.2 _ (List.getElem_mem h0)).2.2.2.2.1.1
    exact ⟨span_zero (by omega), rfl⟩
  · have hs := (site_at hn h0).1.shaped.2.2.2.1
    simp only [startM, List.getElem_replicate, List.getElem_map, List.length_replicate]
    refine ⟨trivial, loadedN_ok (by simp; omega) (fun j hj => by simp [fixI]), span_zero ?_⟩
    unfold maxI; split <;> omega
  · rw [(List.mem_replicate.1 hv).2]
  · rw [(List.mem_replicate.1 hv).2]
  · obtain ⟨s, _, rfl⟩ := List.mem_map.1 hr
    exact (List.mem_replicate.1 hx).2
theorem nowsL_low {n : NetN} {m : Mas} (h : ∀ v ∈ m.cycles, v.1 = n.low) : ∀ c ∈ nowsL m, c = n.low := fun c hc => by
  obtain ⟨v, hv, rfl⟩ := List.mem_map.1 hc
  exact h v hv
theorem rest_cyc {n : NetN} {m : Mas} (hn : NetOk n) (h : RestI n m) : ∀ v ∈ (beM3 n m).cycles, v.1 = n.low := fun v hv => by
  obtain ⟨i, hi, rfl⟩ := List.getElem_of_mem hv
  have hi2 : i < m.cycles.length := by have : (beM3 n m).cycles.length = m.cycles.length := mapK_len _ _ _; omega
  have e : (beM3 n m).cycles[i] = votF n m i m.cycles[i] := mapK_get _ _ hi2 hi2 hi
  obtain ⟨hl, hC, hO, hL⟩ := h.ok
  obtain ⟨c, hc, hcc, h4, h5, hx⟩ := crit_row hn hl hL (by rw [← hl.1]; exact hi2)
  have hz : highX (critN n m i) = 0 := highX_zeros (by rw [h5]; exact h.lo _ (List.getElem_mem h4))
  obtain ⟨k1, _⟩ := nextV_keep (load := highX (critN n m i)) hn (hC i hi2).1 (hC i hi2).2 (highX_in hx)
  rw [e]
  show (nextV n m.cycles[i] (highX (critN n m i))).1 = _
  rw [k1, hz, wishN_zero, h.cy _ (List.getElem_mem hi2)]
  have : towards n.low n.low n.step = n.low := by unfold towards; simp
  rw [this, heardN_eq rfl]
theorem rest_com {n : NetN} {m : Mas} (hn : NetOk n) (h : RestI n m) {i : Nat} (hi : i < n.subs.length) : (beC n m).getD i 0 = n.low := by
  have hb := be_ok hn (beM3_ok hn h.ok)
  have hp := be_parts hb
  obtain ⟨k, hk, _, h2⟩ := hp.has i hi
  rw [getD_lt (by show i < (cycB n (beM3 n m)).length; rw [hp.cl]; exact hi) 0 1]
  show (cycB n (beM3 n m)).getD i 1 = _
  rw [← h2]
  have : k < (nowsL (beM3 n m)).length := by rw [hp.sl]; exact hk
  simp [this]
  exact nowsL_low (rest_cyc hn h) _ (List.getElem_mem this)
theorem rest_spl {n : NetN} {m : Mas} (hn : NetOk n) (h : RestI n m) {i : Nat} (hi : i < n.sites.length) {cyc : List Int} {v : Int × Int × Int} (hv : v.1 = 0) : (splN n (beM3 n m) cyc i n.sites[i] v).1 = 0 := by
  unfold splN
  rw [hv]
  refine snext_zeros ?_
  have hl : i < (beM3 n m).loads.length := by have : (beM3 n m).loads = m.loads := rfl; rw [this, h.ok.1.2.2.2.1]; exact hi
  have : (beM3 n m).loads.getD i [] = m.loads[i]'hl := by show m.loads.getD i [] = _; simp [show i < m.loads.length from hl]; rfl
  rw [this]
  exact h.lo _ (List.getElem_mem _)
theorem beL_len (n : NetN) (m : Mas) : (beL n m).length = n.sites.length := cmdK_len (Nat.le_refl _)
theorem beL_at {n : NetN} {m : Mas} {i : Nat} (hi : i < n.sites.length) (h2 : i < (beL n m).length) : (beL n m)[i] = cmdN n (beM3 n m) (beC n m) (beG n m) i n.sites[i] := by simp [beL, cmdK]
/-- What is commanded without loads. -/
theorem rest_cmd {n : NetN} {m : Mas} (hn : NetOk n) (h : RestI n m) {i : Nat} (hi : i < n.sites.length) (h2 : i < (beL n m).length) : (beL n m)[i] = ⟨n.sites[i].id, n.low, ((scaleN n.sites[i] 0 n.low).offset + (beG n m).getD (subAt n i) 0).tmod n.low, (scaleN n.sites[i] 0 n.low).splits⟩ := by
  obtain ⟨_, hsub, _⟩ := subAt_ok hn hi
  have hp := pln_at hn (beM3_ok hn h.ok) hi
  have hc := rest_com hn h hsub
  have h5 : i < m.splits.length := by have := h.ok.1.2.2.2.2; omega
  have hget : (beM3 n m).splits.getD i (0, 0, 0) = m.splits[i] := by show m.splits.getD i _ = _; simp [h5]
  have hs := rest_spl (cyc := cycB n (beM3 n m)) hn h hi (h.sp _ (List.getElem_mem h5))
  rw [hget, hs] at hp
  have hc2 : (cycB n (beM3 n m)).getD (subAt n i) 0 = n.low := hc
  rw [hc2] at hp
  have h0 : (0 : Int).toNat = 0 := rfl
  rw [h0] at hp
  obtain ⟨s1, s2, s3⟩ := site_at hn hi
  have hlow : n.low ∈ cycN n (cycK n + 1) := mem_cyc.2 ⟨0, by omega, by simp [cycAt]⟩
  have hr := cyc_range hn.1 hlow
  rw [beL_at hi h2]
  unfold cmdN
  show (⟨_, (plnN n (beM3 n m) (cycB n (beM3 n m)) i n.sites[i]).cycle, ((plnN n (beM3 n m) (cycB n (beM3 n m)) i n.sites[i]).offset + _).tmod (plnN n (beM3 n m) (cycB n (beM3 n m)) i n.sites[i]).cycle, (plnN n (beM3 n m) (cycB n (beM3 n m)) i n.sites[i]).splits⟩ : Cmd) = _
  rw [hp.1, scale_cyc (by omega)]

/-! the example -/
theorem place29_spec (id : Int) : FnD Tryz.prog 33 [.int .i64 id] (sitV (siteN id)) := by
  refine fnD_of mixed Tryz.func33 rfl rfl (by simp [Tryz.ntmps33]) fun hwf E => ?_
  simp (disch := omega) [go_sem] at hwf
  simp (disch := omega) [Tryz.ntmps33, go_sem]
  simp (disch := omega) [go_sem, sitV, siteN, grpV, phaV, sets, rows, ints]
theorem region29_spec : FnD Tryz.prog 11 [] (netV regionN) := by
  have h0 := place29_spec 0
  have h1 := place29_spec 1
  refine fnD_of mixed Tryz.func11 rfl rfl (by simp [Tryz.ntmps11]) fun hwf E => ?_
  clear hwf
  simp (disch := omega) [Tryz.ntmps11, go_sem]
  refine callK_data h0 [] (by simp [go_sem]) (.inl rfl) (sit_pure _) (fun _ => ?_)
  simp (disch := omega) [go_sem]
  refine callK_data h1 [] (by simp [go_sem]) (.inl rfl) (sit_pure _) (fun _ => ?_)
  simp (disch := omega) [go_sem, sitV, siteN, grpV, phaV, sets, rows, ints, netV, regionN, subV, wedV]
theorem reg_scale : scaleN (siteN 1) 0 8 = ⟨8, 0, [4, 4]⟩ := by kernel_rfl
theorem reg_begin : (beG regionN (startM regionN)).getD (subAt regionN 1) 0 = 0 := by
  have hr := start_ok regionN_ok
  have hb := be_ok regionN_ok (beM3_ok regionN_ok hr.ok)
  have hp := be_parts hb
  obtain ⟨_, hsub, _⟩ := subAt_ok regionN_ok (i := 1) (by decide)
  refine (hp.og _ hsub).2.2 (hp.alone (fun i => ?_) _ hsub).1
  have hx : ∀ v ∈ (beM1 regionN (startM regionN)).cycles, v.1 = 8 := rest_cyc regionN_ok hr
  have e : (beM3 regionN (startM regionN)).bonds = [bonF regionN (beM1 regionN (startM regionN)) 0 (false, 0)] := rfl
  have e2 : ∀ c : Nat, c < 2 → nowAt (beM1 regionN (startM regionN)) c = 8 := fun c hc => by
    have hl : c < (beM1 regionN (startM regionN)).cycles.length := hc
    have := hx _ (List.getElem_mem hl)
    unfold nowAt
    simp [hl, this]
  have e3 : bonF regionN (beM1 regionN (startM regionN)) 0 (false, 0) = (false, 1) := by
    unfold bonF
    have a1 := e2 0 (by omega)
    have a2 := e2 1 (by omega)
    show bondN regionN 0 (false, 0) (nowAt _ ((0 : Nat) : Int)) (nowAt _ ((1 : Nat) : Int)) = _
    rw [a1, a2]
    have h8 : (8 : Int) ∈ cycN regionN (cycK regionN + 1) := by decide
    rw [bondN_ok (bondC_ok regionN_ok ⟨by decide, by decide, h8, h8⟩)]
    decide
  rw [e, e3]
  unfold tog
  cases i <;> simp
theorem alive29_spec : FnD Tryz.prog 7 [] (.bool true) tabG := by
  have hr := region29_spec
  have hf := first_spec regionN
  have hb := beat_spec regionN (startM regionN)
  have hs := start_ok regionN_ok
  have h0 : masC regionN (startM regionN) = 0 := masC_ok regionN_ok hs.ok
  have hl := beL_len regionN (startM regionN)
  have hl2 : (beL regionN (startM regionN)).length = 2 := hl
  have hc := rest_cmd regionN_ok hs (i := 1) (by decide) (by rw [hl2]; omega)
  rw [reg_begin] at hc
  have hc2 : (beL regionN (startM regionN))[1] = ⟨1, 8, 0, [4, 4]⟩ := by
    rw [hc]
    show (⟨(siteN 1).id, 8, ((scaleN (siteN 1) 0 8).offset + 0).tmod 8, (scaleN (siteN 1) 0 8).splits⟩ : Cmd) = _
    rw [reg_scale]; rfl
  rw [firstM, if_pos regionN_ok, netN_ok regionN_ok] at hf
  rw [beatM, beatL, if_pos h0, if_pos h0, h0] at hb
  have hn1 : nth ((beL regionN (startM regionN)).map cmdV) 1 = .agg [.int .i64 1, .int .i64 8, .int .i64 0, .sl 1 [.int .i64 4, .int .i64 4]] := by
    rw [nth_map (by omega), hc2]; simp [cmdV, ints]
  have hn2 : ∀ h', ((beL regionN (startM regionN)).map cmdV)[1]'h' = .agg [.int .i64 1, .int .i64 8, .int .i64 0, .sl 1 [.int .i64 4, .int .i64 4]] := fun h' => by
    rw [List.getElem_map, hc2]; simp [cmdV, ints]
  have hlm : ((beL regionN (startM regionN)).map cmdV).length = 2 := by simp [hl2]
  have hpm := cmds_pure (beL regionN (startM regionN))
  generalize (beL regionN (startM regionN)).map cmdV = L at *
  generalize beM5 regionN (startM regionN) = M5 at *
  have hp5 := masV_pure M5
  have hps := masV_pure (startM regionN)
  generalize hM : startM regionN = M0 at *
  have hnp := net_pure regionN
  refine fnD_of mixed Tryz.func7 rfl rfl (by simp [Tryz.ntmps7]) fun hwf E => ?_
  clear hwf
  simp (disch := omega) [Tryz.ntmps7, go_sem]
  refine callK_data hr [] (by simp [go_sem]) (.inl rfl) (net_pure _) (fun _ => ?_)
  simp (disch := omega) [go_sem]
  refine callK_data hf [] (by simp [go_sem, hnp]) (.inl rfl) (by simp [go_sem, hps]) (fun _ => ?_) (by simp [tabG, go_sem])
  simp (disch := omega) [go_sem, masV]
  refine callK_data hr [] (by simp [go_sem]) (.inl rfl) (net_pure _) (fun _ => ?_)
  simp only [masV] at hb
  simp (disch := omega) [go_sem]
  refine callK_data hb [] (by simp [go_sem, hnp]) (.inl rfl) (by simp [go_sem, hpm]) (fun _ => ?_) (by simp [tabG, go_sem])
  simp (disch := omega) [go_sem]
  refine ⟨.inl (by kernel_rfl), ?_⟩
  simp (disch := omega) [go_sem, hlm, hn1, hn2]
end Go.Proofs.YtpijmanjjhpkiaaGreatDoor

namespace Go.Proofs.YtpijmanjjhpkiaaGreatDoor
open Go.AM Go.RowKit
set_option maxRecDepth 100000

structure Rep where
  site : Int
  mode : Int
  tick : Int
  loads : List Int
def repV (r : Rep) : V := .agg [.int .i64 r.site, .int .u8 r.mode, .int .i64 r.tick, .sl 1 (ints r.loads)]
theorem reps_pure (l : List Rep) : pures (l.map repV) := pures_map _ (fun c => by simp [repV, go_sem]) l
def greatM (m : Mas) : Bool := decide ((50 : Int) < m.cycles.length) || decide ((50 : Int) < m.offsets.length) || decide ((50 : Int) < m.bonds.length) || decide ((50 : Int) < m.loads.length) || decide ((50 : Int) < m.splits.length) || m.loads.any fun l => decide ((100 : Int) < l.length)
set_option maxHeartbeats 4000000 in
theorem greatM_spec (m : Mas) : FnD Tryz.prog 13 [masV m] (.bool (greatM m)) := by
  have hmv : masV m = .agg [.sl 3 (votesV m.cycles), .sl 3 (votesV m.offsets), .sl 2 (bondsV m.bonds), .sl 1 (rows m.loads), .sl 3 (votesV m.splits)] := rfl
  rw [hmv]
  refine fnD_of mixed Tryz.func13 rfl rfl (by simp [Tryz.ntmps13]) fun hwf E => ?_
  simp (disch := omega) [go_sem] at hwf
  simp (disch := omega) [Tryz.ntmps13, go_sem]
  by_cases h0 : (decide ((50 : Int) < m.cycles.length) || decide ((50 : Int) < m.offsets.length) || decide ((50 : Int) < m.bonds.length) || decide ((50 : Int) < m.loads.length) || decide ((50 : Int) < m.splits.length)) = true
  · have e : greatM m = true := by unfold greatM; rw [h0]; rfl
    rw [e]
    refine br_of (fun h1 => ?_) (fun h1 => ?_)
    · simp (disch := omega) [go_sem]
    · exfalso; simp at h0 h1; omega
  · have e : greatM m = m.loads.any fun l => decide ((100 : Int) < l.length) := by unfold greatM; rw [Bool.not_eq_true] at h0; rw [h0, Bool.false_or]
    rw [e]
    refine br_of (fun h1 => ?_) (fun h1 => ?_)
    · exfalso; simp at h0 h1; omega
    · simp (disch := omega) [go_sem]
      refine awz_loop mixed (fun k : Nat => ⟨[(3, .int .i64 k), (1, .ptr 0 1 0 0)], [(0, ⟨.box, 32, 5, [masV m]⟩)], 1024, [], 46, 0, []⟩) (fun k => k ≤ m.loads.length ∧ ∀ j (h : j < m.loads.length), j < k → decide ((100 : Int) < m.loads[j].length) = false) (fun k => m.loads.length - k) 0 ?_ ?_ ?_
      · exact ⟨by omega, fun j h hj => by omega⟩
      · refine Le.mk [(0, some 0)] [0] ⟨rfl, rfl, rfl⟩ ?_ ?_ ?_ <;> simp [go_sem, masV]
      · rintro k ⟨hk, hno⟩
        simp (disch := omega) [go_sem, masV]
        refine br_of (fun h2 => ?_) (fun h2 => ?_) <;> simp at h2
        · have hr := nth_rows h2
          simp (disch := omega) [go_sem, hr, h2]
          refine br_of (fun h3 => ?_) (fun h3 => ?_) <;> simp at h3
          · simp (disch := omega) [go_sem]
            exact ⟨_, List.getElem_mem h2, h3⟩
          · simp (disch := omega) [go_sem]
            have hnx : ∀ j (h : j < m.loads.length), j < k + 1 → (m.loads[j].length : Int) ≤ 100 := fun j h hj => by
              by_cases e : j = k
              · subst e; omega
              · have := hno j h (by omega)
                simp at this; omega
            refine round_of (k + 1) (⟨by omega, hnx⟩) (by omega) (Le.mk [(0, some 0)] [0] ⟨rfl, rfl, rfl⟩ ?_ ?_ ?_) <;> simp [go_sem, masV]
        · have e1 : (m.loads.any fun l => decide ((100 : Int) < l.length)) = false := any_no fun j hj => hno j hj (by omega)
          rw [e1]
          simp (disch := omega) [go_sem]
theorem getElem_nthK {L : List V} {k : Nat} {A : V} (a : nth L k = A) (h : k < L.length) : L[k] = A := by rw [← nth_lt h]; exact a
theorem nth_some {L : List V} {k : Nat} {A : V} (a : L[k]? = some A) : nth L k = A := by rw [nth_eq]; simp [a]
theorem fits_off {s : Sit} {p : Pln} (h : Fits s p) {o : Int} (ho : 0 ≤ o ∧ o ≤ p.cycle - 1) : Fits s ⟨p.cycle, o, p.splits⟩ := ⟨h.1, ho, h.2.2.1, h.2.2.2.1, h.2.2.2.2⟩
/-- What is asked of each command. -/
theorem keep_cmd {n : NetN} {m : Mas} (hn : NetOk n) (h : MasOk n m) {i : Nat} (hi : i < n.sites.length) : ∃ c : Cmd, ((beL n m).map cmdV)[i]? = some (cmdV c) ∧ c.site = n.sites[i].id ∧ Fits n.sites[i] ⟨c.cycle, c.offset, c.splits⟩ ∧ c.cycle = (beC n m).getD (subAt n i) 0 := by
  have h2 : i < (beL n m).length := by rw [beL_len]; exact hi
  have h3 := beM3_ok hn h
  obtain ⟨_, hf, hc, _⟩ := pln_at hn h3 hi
  have hk := cmd_ok hn h3
  obtain ⟨_, hsub, _⟩ := subAt_ok hn hi
  have hb := hk.bg (subAt n i) (by rw [hk.bl]; exact hsub)
  have hp := hk.pl i hi
  refine ⟨cmdN n (beM3 n m) (beC n m) (beG n m) i n.sites[i], by rw [List.getElem?_map, List.getElem?_eq_getElem h2, beL_at hi h2]; rfl, rfl, ?_, hc⟩
  have hg : (beG n m).getD (subAt n i) 0 = (begB n (beM3 n m))[subAt n i]'(by rw [hk.bl]; exact hsub) := by
    show (begB n (beM3 n m)).getD (subAt n i) 0 = _
    simp [show subAt n i < (begB n (beM3 n m)).length by rw [hk.bl]; exact hsub]
  refine fits_off hf (o := ((plnN n (beM3 n m) (beC n m) i n.sites[i]).offset + (beG n m).getD (subAt n i) 0).tmod (plnN n (beM3 n m) (beC n m) i n.sites[i]).cycle) ?_
  have hp2 : 1 ≤ (plnN n (beM3 n m) (beC n m) i n.sites[i]).cycle ∧ (plnN n (beM3 n m) (beC n m) i n.sites[i]).cycle ≤ 1048576 ∧ 0 ≤ (plnN n (beM3 n m) (beC n m) i n.sites[i]).offset ∧ (plnN n (beM3 n m) (beC n m) i n.sites[i]).offset ≤ 1048576 := hp
  have t1 := Int.tmod_nonneg (plnN n (beM3 n m) (beC n m) i n.sites[i]).cycle (a := (plnN n (beM3 n m) (beC n m) i n.sites[i]).offset + (beG n m).getD (subAt n i) 0) (by rw [hg]; omega)
  have t2 := Int.tmod_lt_of_pos ((plnN n (beM3 n m) (beC n m) i n.sites[i]).offset + (beG n m).getD (subAt n i) 0) (show 0 < (plnN n (beM3 n m) (beC n m) i n.sites[i]).cycle by omega)
  show 0 ≤ _ ∧ _ ≤ (plnN n (beM3 n m) (beC n m) i n.sites[i]).cycle - 1
  omega
theorem keep_grp {n : NetN} {m : Mas} (hn : NetOk n) (h : MasOk n m) {i j : Nat} (hi : i < n.subs.length) (hj : j < n.subs.length) (hg : (groupsN n (beM5 n m).bonds).getD i 0 = (groupsN n (beM5 n m).bonds).getD j 0) : (beC n m).getD i 0 = (beC n m).getD j 0 := by
  have hp := be_parts (be_ok hn (beM3_ok hn h))
  have := (hp.most j i hj hi hg).2
  show (cycB n (beM3 n m)).getD i 0 = (cycB n (beM3 n m)).getD j 0
  rw [getD_lt (by rw [hp.cl]; exact hi) 0 1, getD_lt (by rw [hp.cl]; exact hj) 0 1]
  exact this

set_option maxHeartbeats 16000000 in
theorem mkeeps_spec (n : NetN) (m : Mas) (l : List Rep) (b : Int) : FnD Tryz.prog 6 [netV n, masV m, .sl 4 (l.map repV), .int .u8 b] (.bool true) tabG := by
  have hnv : netV n = .agg [.sl 12 (n.sites.map sitV), .sl 2 (n.subs.map subV), .sl 4 (n.weds.map wedV), .int .i64 n.low, .int .i64 n.high, .int .i64 n.step] := rfl
  have hmv : masV m = .agg [.sl 3 (votesV m.cycles), .sl 3 (votesV m.offsets), .sl 2 (bondsV m.bonds), .sl 1 (rows m.loads), .sl 3 (votesV m.splits)] := rfl
  have ha := alive29_spec
  have hg := greatN_spec n
  have hgm := greatM_spec m
  have hc := fun m => mcheck_spec n m
  have hh := fun m r => hear_spec n m (Rep.site r) (Rep.mode r) (Rep.tick r) (Rep.loads r)
  have hb := fun m => beat_spec n m
  have hpM := fun m => masV_pure m
  have hpl := reps_pure l
  rw [hnv] at hg hc hh hb ⊢
  rw [hmv] at hgm ⊢
  have hcm := hc m
  rw [hmv] at hcm
  refine fnD_of mixed Tryz.func6 rfl rfl (by simp [Tryz.ntmps6]) fun hwf E => ?_
  simp (disch := omega) [go_sem] at hwf
  simp (disch := omega) [Tryz.ntmps6, go_sem]
  refine callK_data ha [] (by simp [go_sem]) (.inl rfl) (by simp [go_sem]) (fun _ => ?_) (by simp [tabG, go_sem])
  simp (disch := omega) [go_sem]
  refine callK_bool hg [] (by simp [go_sem]) (fun h1 => ?_) (fun h1 => ?_) <;> try simp [inN] at h1
  · simp (disch := omega) [go_sem, h1]
  · simp (disch := omega) [go_sem, h1]
    refine callK_bool hgm [] (by simp [go_sem]) (fun h2 => ?_) (fun h2 => ?_) <;> try simp [inN] at h2
    · simp (disch := omega) [go_sem, h1, h2]
    · simp (disch := omega) [go_sem, h1, h2]
      by_cases hl : 20 < l.length
      · have hl2 : (20 : Int) < l.length := by omega
        simp (disch := omega) [go_sem, hl, hl2]
      · have hl2 : ¬ (20 : Int) < l.length := by omega
        by_cases h0 : masC n m = 0
        rotate_left
        · simp (disch := omega) [go_sem, hl, hl2]
          refine callK_data hcm [] (by simp [go_sem]) (.inl rfl) (by simp [go_sem]) (fun _ => ?_) (by simp [tabG, go_sem])
          simp (disch := omega) [go_sem]
          simp (disch := omega) [go_sem, h0]
        rw [h0] at hcm
        obtain ⟨hn, hm0⟩ := masC_iff.1 h0
        simp (disch := omega) [go_sem, hl, hl2]
        refine callK_data hcm [] (by simp [go_sem]) (.inl rfl) (by simp [go_sem]) (fun _ => ?_) (by simp [tabG, go_sem])
        simp (disch := omega) [go_sem]
        have hb0 : 0 ≤ b ∧ b ≤ 255 := by omega
        obtain ⟨N, hN⟩ : ∃ N : Nat, b.tmod 11 = N := ⟨(b.tmod 11).toNat, (Int.toNat_of_nonneg (Int.tmod_nonneg _ hb0.1)).symm⟩
        have hN2 : N < 11 := by have := Int.tmod_lt_of_pos b (show (0 : Int) < 11 by omega); omega
        have hb12 : n.sites.length ≤ 12 ∧ 1 ≤ n.sites.length := ⟨hn.2.1.1.2, hn.2.1.1.1⟩
        refine awz_loop mixed (fun p : Mas × Nat => ⟨[(10, .int .i64 p.2), (5, .ptr 16 1 0 0), (4, .ptr 0 1 0 0), (3, .int .u8 b), (2, .sl 4 (l.map repV))], [(16, ⟨.box, 32, 5, [masV p.1]⟩), (0, ⟨.box, 26, 6, [netV n]⟩)], 1024, [], 191, 0, tabG⟩) (fun p => p.2 ≤ l.length ∧ MasOk n p.1) (fun p => l.length - p.2) (m, 0) ?_ ?_ ?_
        · exact ⟨by omega, hm0⟩
        · refine Le.mk [(0, some 0), (16, some 16)] [0, 16] ⟨rfl, rfl, rfl⟩ ?_ ?_ ?_ <;> simp [go_sem, masV, netV, hpl]
        · rintro ⟨m1, i⟩ ⟨hi, hm1⟩
          simp only at hi hm1
          simp (disch := omega) [go_sem, masV, netV]
          refine br_of (fun h => ?_) (fun h => ?_) <;> simp at h
          · have hq := hh m1 l[i]
            have hr1 : nth (l.map repV) i = repV l[i] := nth_map h
            have hr2 : ∀ h', (l.map repV)[i]'h' = repV l[i] := fun h' => by simp
            have hkp := hearM_keep (site := l[i].site) (l := l[i].loads) hn hm1
            generalize l[i] = r at *
            simp only [repV] at hr1 hr2
            simp only [masV] at hq
            simp (disch := omega) [go_sem, hr1, hr2, h]
            refine callK_data hq [] (by simp [go_sem]) (.inl rfl) (by simp [go_sem]) (fun _ => ?_) (by simp [tabG, go_sem])
            simp (disch := omega) [go_sem]
            refine ⟨.inl (by kernel_rfl), ?_⟩
            refine br_of (fun hz => ?_) (fun hz => ?_) <;> simp at hz
            · simp (disch := omega) [go_sem, hz]
              refine round_of ((hearM n m1 r.site r.loads, i + 1)) (⟨by omega, hkp hz⟩) (by omega) (Le.mk [(0, some 0), (16, some 16)] [0, 16] ⟨rfl, rfl, rfl⟩ ?_ ?_ ?_) <;> simp [go_sem, masV, netV, hpl]
            · simp (disch := omega) [go_sem]
              refine round_of ((m1, i + 1)) (⟨by omega, hm1⟩) (by omega) (Le.mk [(0, some 0), (16, some 16)] [0, 16] ⟨rfl, rfl, rfl⟩ ?_ ?_ ?_) <;> simp [go_sem, masV, netV, hpl]
          · simp (disch := omega) [go_sem]
            clear h hi
            refine awz_loop mixed (fun p : Mas × Nat => ⟨[(13, .int .i64 p.2), (5, .ptr 16 1 0 0), (4, .ptr 0 1 0 0), (3, .int .u8 b)], [(16, ⟨.box, 32, 5, [masV p.1]⟩), (0, ⟨.box, 26, 6, [netV n]⟩)], 2048, [], 191, 0, tabG⟩) (fun p => p.2 ≤ N ∧ MasOk n p.1) (fun p => N - p.2) (m1, 0) ?_ ?_ ?_
            · exact ⟨by omega, hm1⟩
            · refine Le.mk [(0, some 0), (16, some 16)] [0, 16] ⟨rfl, rfl, rfl⟩ ?_ ?_ ?_ <;> simp [go_sem, masV, netV]
            · clear hm1
              rintro ⟨m1, i⟩ ⟨hi, hm1⟩
              simp only at hi hm1
              simp (disch := omega) [go_sem, masV, netV, hN]
              refine br_of (fun h => ?_) (fun h => ?_) <;> simp at h
              · have hbm := hb m1
                have h01 : masC n m1 = 0 := masC_ok hn hm1
                rw [beatM, beatL, if_pos h01, if_pos h01, h01] at hbm
                have hcmd := fun k hk => keep_cmd (i := k) hn hm1 hk
                have hgrp := fun i j hi hj => keep_grp (i := i) (j := j) hn hm1 hi hj
                have hm2 := beM5_ok hn hm1
                have hlL : ((beL n m1).map cmdV).length = n.sites.length := by simp [beL_len]
                have hpL := cmds_pure (beL n m1)
                have hcC : (beC n m1).length = n.subs.length := (cmd_ok hn (beM3_ok hn hm1)).cl
                have hGr := Groups_spec n (beM5 n m1).bonds
                have hbC : bondedC n (beM5 n m1).bonds = 0 := (be_ok hn hm2).bC
                have hgl : (groupsN n (beM5 n m1).bonds).length = n.subs.length := (be_parts (be_ok hn hm2)).gl
                have hc2 := hc (beM5 n m1)
                rw [masC_ok hn hm2] at hc2
                rw [groupsL, if_pos hbC, hbC] at hGr
                generalize (beL n m1).map cmdV = L at *
                generalize beC n m1 = C at *
                generalize beM5 n m1 = m2 at *
                generalize groupsN n m2.bonds = G at *
                simp only [masV] at hbm hc2
                rw [hnv] at hGr
                simp (disch := omega) [go_sem]
                refine callK_data hbm [] (by simp [go_sem]) (.inl rfl) (by simp [go_sem, hpL]) (fun _ => ?_) (by simp [tabG, go_sem])
                simp (disch := omega) [go_sem, hlL]
                refine callK_data hc2 [] (by simp [go_sem]) (.inl rfl) (by simp [go_sem]) (fun _ => ?_) (by simp [tabG, go_sem])
                simp (disch := omega) [go_sem]
                simp (disch := omega) [go_sem, hlL]
                refine callK_data hGr [] (by simp [go_sem]) (.inl rfl) (by simp [go_sem]) (fun _ => ?_) (by simp [tabG, go_sem])
                simp (disch := omega) [go_sem]
                refine awz_loop mixed (fun k : Nat => ⟨[(19, .int .i64 k), (17, .sl 1 (ints G)), (15, .sl 4 L), (13, .int .i64 i), (5, .ptr 16 1 0 0), (4, .ptr 0 1 0 0), (3, .int .u8 b)], [(16, ⟨.box, 32, 5, [masV m2]⟩), (0, ⟨.box, 26, 6, [netV n]⟩)], 4096, [], 191, 0, tabG⟩) (fun k => k ≤ n.sites.length) (fun k => n.sites.length - k) 0 ?_ ?_ ?_
                · omega
                · refine Le.mk [(0, some 0), (16, some 16)] [0, 16] ⟨rfl, rfl, rfl⟩ ?_ ?_ ?_ <;> simp [go_sem, masV, netV, hpL]
                · intro k hk
                  simp (disch := omega) [go_sem, masV, netV, hlL]
                  refine br_of (fun h3 => ?_) (fun h3 => ?_) <;> simp at h3
                  · obtain ⟨c, a1, c1, c2, c3⟩ := hcmd k h3
                    obtain ⟨c0, b1, _, _, b3⟩ := hcmd 0 (by omega)
                    obtain ⟨s1, s2, _⟩ := subAt_ok hn h3
                    obtain ⟨t1, t2, _⟩ := subAt_ok hn (i := 0) (by omega)
                    have hso := (site_at hn h3).1
                    have hsub := nsub_spec n k
                    have hsub0 := nsub_spec n 0
                    rw [s1, if_pos ⟨hn, by omega⟩, if_pos hn, if_pos (by omega)] at hsub
                    have t1 : subN n 0 = subAt n 0 := t1
                    rw [t1, if_pos ⟨hn, by omega⟩, if_pos hn, if_pos (by omega)] at hsub0
                    have hgq := hgrp (subAt n k) (subAt n 0) s2 t2
                    rw [← c3, ← b3] at hgq
                    have hpl := plan_spec n.sites[k] ⟨c.cycle, c.offset, c.splits⟩
                    have hck : checkN n.sites[k] = 0 := by unfold checkN; rw [if_pos hso]
                    rw [hck, decide_eq_true hso, decide_eq_true c2] at hpl
                    have a2 := nth_some a1
                    have b2 := nth_some b1
                    have hw : nth (n.sites.map sitV) k = sitV n.sites[k] := nth_map h3
                    have hw2 : ∀ h', (n.sites.map sitV)[k]'h' = sitV n.sites[k] := fun h' => by simp
                    have g3 : G.getD (subAt n k) 0 = G[subAt n k]'(by omega) := by simp [show subAt n k < G.length by omega]
                    have g4 : G.getD (subAt n 0) 0 = G[subAt n 0]'(by omega) := by simp [show subAt n 0 < G.length by omega]
                    rw [g3, g4] at hgq
                    obtain ⟨u, u0, hu, hu0, hsub', hsub0', hgq2⟩ : ∃ (u u0 : Nat) (hu : u < G.length) (hu0 : u0 < G.length), FnD Tryz.prog 24 [netV n, .int .i64 k] (.tup [.int .i64 u, .int .i64 0]) tabG ∧ FnD Tryz.prog 24 [netV n, .int .i64 0] (.tup [.int .i64 u0, .int .i64 0]) tabG ∧ (G[u] = G[u0] → c.cycle = c0.cycle) := ⟨subAt n k, subAt n 0, by omega, by omega, hsub, hsub0, hgq⟩
                    have g1 := nth_ints hu
                    have g2 := nth_ints hu0
                    generalize hGu : G[u] = gu at *
                    generalize hGu0 : G[u0] = gu0 at *
                    clear hsub hsub0
                    obtain ⟨s, hs⟩ : ∃ s, n.sites[k] = s := ⟨_, rfl⟩
                    rw [hs] at c1 hpl hw
                    simp only [hs] at hw2
                    obtain ⟨cs, cc, co, cl⟩ := c
                    obtain ⟨ds, dc, d0, dl⟩ := c0
                    simp only at c1 hgq2 hpl
                    subst c1
                    simp only [cmdV] at a2 b2
                    simp only [sitV, plnV] at hw hw2 hpl
                    have a3 := fun h' => getElem_nthK a2 h'
                    have b4 := fun h' => getElem_nthK b2 h'
                    have g5 := fun h' => getElem_nthK g1 h'
                    have g6 := fun h' => getElem_nthK g2 h'
                    rw [netV] at hsub' hsub0'
                    simp (disch := omega) [go_sem, a2, a3, hlL, h3, hw, hw2, hs, sitV]
                    refine callK_data hpl [] (by simp [go_sem]) (.inl rfl) (by simp [go_sem]) (fun _ => ?_) (by simp [tabG, go_sem])
                    simp (disch := omega) [go_sem]
                    refine ⟨.inl (by kernel_rfl), ?_⟩
                    refine callK_data hsub' [] (by simp [go_sem]) (.inl rfl) (by simp [go_sem]) (fun _ => ?_) (by simp [tabG, go_sem])
                    simp (disch := omega) [go_sem]
                    refine callK_data hsub0' [] (by simp [go_sem]) (.inl rfl) (by simp [go_sem]) (fun _ => ?_) (by simp [tabG, go_sem])
                    simp (disch := omega) [go_sem]
                    have h00 : 0 < n.sites.length := by omega
                    by_cases hgg : gu = gu0
                    · have hcc := hgq2 hgg
                      simp (disch := omega) [go_sem, a2, a3, hlL, h3, hw, hw2, hs, sitV, g1, g2, hu, hu0, b2, b4, g5, g6, hGu, hGu0, hgg, hcc, h00]
                      refine ⟨.inl (by kernel_rfl), ?_⟩
                      refine round_of (k + 1) (by omega) (by omega) (Le.mk [(0, some 0), (16, some 16)] [0, 16] ⟨rfl, rfl, rfl⟩ ?_ ?_ ?_) <;> simp [go_sem, masV, netV, hpL]
                    · simp (disch := omega) [go_sem, a2, a3, hlL, h3, hw, hw2, hs, sitV, g1, g2, hu, hu0, b2, b4, g5, g6, hGu, hGu0, hgg, h00]
                      refine ⟨.inl (by kernel_rfl), ?_⟩
                      refine round_of (k + 1) (by omega) (by omega) (Le.mk [(0, some 0), (16, some 16)] [0, 16] ⟨rfl, rfl, rfl⟩ ?_ ?_ ?_) <;> simp [go_sem, masV, netV, hpL]
                  · simp (disch := omega) [go_sem]
                    refine round_of ((m2, i + 1)) (⟨by omega, hm2⟩) (by omega) (Le.mk [(0, some 0), (16, some 16)] [0, 16] ⟨rfl, rfl, rfl⟩ ?_ ?_ ?_) <;> simp [go_sem, masV, netV]
              · simp (disch := omega) [go_sem]
end Go.Proofs.YtpijmanjjhpkiaaGreatDoor

namespace Go.Proofs.YtpijmanjjhpkiaaGreatDoor
open Go.AM Go.RowKit
set_option maxRecDepth 100000
section
variable {m : Nat}
theorem sh_i64s {xs : List V} (h : sh Tryz.prog (m + 2) 46 xs) : ∃ l, xs = [.sl 1 (ints l)] := by
  rw [sh] at h
  simp only [Tryz.underlying46, fcells2] at h
  obtain ⟨ys, rfl, _, hy⟩ := h
  obtain ⟨l, rfl⟩ := list_of_all (fun n => V.int .i64 n) (fun y hy => one_i64 hy) hy
  exact ⟨l, rfl⟩
theorem sh_votesM {xs : List V} (h : sh Tryz.prog (m + 3) 28 xs) : ∃ l : List (Int × Int × Int), xs = [.sl 3 (votesV l)] := by
  rw [sh] at h
  simp only [Tryz.underlying28, fcells50] at h
  obtain ⟨ys, rfl, _, hy⟩ := h
  obtain ⟨l, rfl⟩ := list_of_all voteV (fun y hy => one_vote hy) hy
  exact ⟨l, rfl⟩
theorem sh_bondsM {xs : List V} (h : sh Tryz.prog (m + 3) 29 xs) : ∃ l : List (Bool × Int), xs = [.sl 2 (bondsV l)] := by
  rw [sh] at h
  simp only [Tryz.underlying29, fcells103] at h
  obtain ⟨ys, rfl, _, hy⟩ := h
  obtain ⟨l, rfl⟩ := list_of_all bondV (fun y hy => by obtain ⟨b, k, e⟩ := one_bond hy; exact ⟨(b, k), e⟩) hy
  exact ⟨l, rfl⟩
theorem sh_rows64 {xs : List V} (h : sh Tryz.prog (m + 3) 30 xs) : ∃ l, xs = [.sl 1 (rows l)] := by
  rw [sh] at h
  simp only [Tryz.underlying30, fcells46] at h
  obtain ⟨ys, rfl, _, hy⟩ := h
  obtain ⟨l, rfl⟩ := list_of_all (fun r => V.sl 1 (ints r)) (fun y hy => one_loads hy) hy
  exact ⟨l, rfl⟩
theorem one_mas {y : V} (h : one Tryz.prog (sh Tryz.prog (m + 4)) 32 y) : ∃ s, y = masV s := by
  simp only [one, isRowT, Tryz.underlying32, Option.map_some] at h
  obtain ⟨cs, rfl, h⟩ := h
  rw [sh] at h
  simp only [Tryz.underlying32, parts] at h
  obtain ⟨_, _, rfl, h1, _, _, rfl, h2, _, _, rfl, h3, _, _, rfl, h4, _, _, rfl, h5, rfl⟩ := h
  obtain ⟨a1, rfl⟩ := sh_votesM h1
  obtain ⟨a2, rfl⟩ := sh_votesM h2
  obtain ⟨a3, rfl⟩ := sh_bondsM h3
  obtain ⟨a4, rfl⟩ := sh_rows64 h4
  obtain ⟨a5, rfl⟩ := sh_votesM h5
  exact ⟨⟨a1, a2, a3, a4, a5⟩, rfl⟩
theorem sh_u8M {xs : List V} (h : sh Tryz.prog (m + 1) 5 xs) : ∃ n, xs = [.int .u8 n] := by
  have h2 : ∃ n : Nat, xs = [.int .u8 n] := by simpa [sh, Tryz.underlying5, IntKind.signed] using h
  obtain ⟨n, h2⟩ := h2
  exact ⟨n, h2⟩
theorem one_rep {y : V} (h : one Tryz.prog (sh Tryz.prog (m + 3)) 48 y) : ∃ s, y = repV s := by
  simp only [one, isRowT, Tryz.underlying48, Option.map_some] at h
  obtain ⟨cs, rfl, h⟩ := h
  rw [sh] at h
  simp only [Tryz.underlying48, parts] at h
  obtain ⟨_, _, rfl, h1, _, _, rfl, h2, _, _, rfl, h3, _, _, rfl, h4, rfl⟩ := h
  obtain ⟨a1, rfl⟩ := sh_int h1
  obtain ⟨a2, rfl⟩ := sh_u8M h2
  obtain ⟨a3, rfl⟩ := sh_int h3
  obtain ⟨a4, rfl⟩ := sh_i64s h4
  exact ⟨⟨a1, a2, a3, a4⟩, rfl⟩
theorem one_reps {y : V} (h : one Tryz.prog (sh Tryz.prog (m + 4)) 63 y) : ∃ l : List Rep, y = .sl 4 (l.map repV) := by
  simp only [one, isRowT, Tryz.underlying63, Option.map_some] at h
  rw [sh] at h
  simp only [Tryz.underlying63, fcells48] at h
  obtain ⟨ys, hs, _, hy⟩ := h
  obtain ⟨l, rfl⟩ := list_of_all repV (fun y hy => one_rep hy) hy
  exact ⟨l, by simpa using hs⟩
end
end Go.Proofs.YtpijmanjjhpkiaaGreatDoor
