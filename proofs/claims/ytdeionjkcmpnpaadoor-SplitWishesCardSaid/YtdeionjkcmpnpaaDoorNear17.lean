
/- stoplineref17.Near: the plan of a site that is next to any one. -/
import Derived.Test.YtdeionjkcmpnpaaDoorClamp
import Derived.Test.YtdeionjkcmpnpaaDoorWis26
set_option linter.unusedSimpArgs false
set_option linter.unusedVariables false
namespace Go.Proofs.YtdeionjkcmpnpaaDoor
open Go.AM Go.RowKit
set_option maxRecDepth 100000

def wishL (s : Sit) (p : Pln) (k : Nat) : List Int := (List.range k).map (wishP s p)
theorem wishL_len (s : Sit) (p : Pln) (k : Nat) : (wishL s p k).length = k := by simp [wishL]
theorem wishL_succ (s : Sit) (p : Pln) (k : Nat) : wishL s p (k + 1) = wishL s p k ++ [wishP s p k] := by simp [wishL, List.range_succ]
theorem off_neg {x c : Int} (hc : 0 < c) (h : x.tmod c < 0) : (x.tmod c + c).tmod c = x.tmod c + c := by
  have h1 := Int.lt_tmod_of_pos x hc
  exact Int.tmod_eq_of_lt (by omega) (by omega)
theorem off_pos {x c : Int} (hc : 0 < c) (h : ¬ x.tmod c < 0) : (x.tmod c + c).tmod c = x.tmod c := by
  have h1 := Int.tmod_lt_of_pos x hc
  rw [Int.tmod_eq_emod_of_nonneg (by omega), Int.add_emod_right]
  exact Int.emod_eq_of_lt (by omega) (by omega)
theorem nth_oob : ∀ (l : List V) (k : Nat), l.length ≤ k → nth l k = .bot
  | [], _, _ => rfl
  | _ :: r, 0, h => by simp at h
  | _ :: r, k + 1, h => by simp only [nth]; exact nth_oob r k (by simpa using h)
def nr1 (s : Sit) (p : Pln) (c o : Int) (k : Nat) : St :=
  ⟨[(9, .int .i64 k), (8, .obj 1008 k), (7, .int .i64 (allC s p k)), (6, .int .i64 (restC s c k)), (5, .ptr 96 1 0 0), (4, .ptr 32 1 0 0), (3, .ptr 16 1 0 0), (2, .ptr 0 1 0 0)], [(1008, ⟨.arr, 3, 1, ints (wishL s p k)⟩), (1024, ⟨.arr, 3, 1, ints (leastL s k)⟩), (96, ⟨.box, 36, 3, [.agg [.int .i64 c, .int .i64 o, .obj 1024 k]]⟩), (32, ⟨.box, 36, 3, [.agg [.int .i64 0, .int .i64 0, .nilS]]⟩), (16, ⟨.box, 36, 3, [plnV p]⟩), (0, ⟨.box, 29, 12, [sitV s]⟩)], 2048, [], 175, 0, []⟩

theorem allC_zero {s : Sit} {p : Pln} (hw : ∀ i, i < s.phases.length → 0 ≤ wishP s p i) : ∀ k, k ≤ s.phases.length → 0 ≤ allC s p k ∧ (allC s p k = 0 → firstC s p k = -1)
  | 0, _ => by simp [allC, firstC]
  | k + 1, h => by
    obtain ⟨h1, h2⟩ := allC_zero hw k (by omega)
    have h3 := hw k (by omega)
    refine ⟨by unfold allC; omega, fun h4 => ?_⟩
    unfold allC at h4
    rw [firstC_no (by omega)]
    exact h2 (by omega)
theorem firstC_some {s : Sit} {p : Pln} (hw : ∀ i, i < s.phases.length → 0 ≤ wishP s p i) : ∀ k, k ≤ s.phases.length → 0 < allC s p k → 0 ≤ firstC s p k
  | 0, _, h => by simp [allC] at h
  | k + 1, hk, h => by
    have ih := firstC_some hw k (by omega)
    by_cases g : 0 < wishP s p k ∧ firstC s p k < 0
    · rw [firstC_yes g]; omega
    · rw [firstC_no g]
      have h3 := hw k (by omega)
      unfold allC at h
      by_cases e : firstC s p k < 0
      · have := ih (by omega); omega
      · omega
theorem leftC_flat {s : Sit} {p : Pln} {c : Int} (h : ¬ 0 < allC s p s.phases.length) : ∀ k, leftC s p c k = restC s c s.phases.length
  | 0 => rfl
  | k + 1 => by
    have : shareC s p c k = 0 := by unfold shareC; rw [if_neg h]
    unfold leftC
    rw [leftC_flat h k, this]; omega
theorem sl2_flat {s : Sit} {p : Pln} {c : Int} (h : ¬ 0 < allC s p s.phases.length) (k : Nat) : sl2 s p c k = leastL s s.phases.length := by
  have : ∀ i, shareC s p c i = 0 := fun i => by unfold shareC; rw [if_neg h]
  unfold sl2 leastL
  apply List.map_congr_left
  intro i _
  rw [this]; split <;> omega
theorem clampL_flat {s : Sit} {p : Pln} (c : Int) (hw : ∀ i, i < s.phases.length → 0 ≤ wishP s p i) (h : allC s p s.phases.length = 0) :
    clampL s p c = (leastL s s.phases.length).set 0 ((leastL s s.phases.length).getD 0 0 + restC s c s.phases.length) := by
  unfold clampL
  rw [(allC_zero hw _ (Nat.le_refl _)).2 h, sl2_flat (by omega), leftC_flat (by omega)]
  rfl
noncomputable def nr2 (s : Sit) (p : Pln) (c o : Int) (k : Nat) : St :=
  ⟨[(14, .int .i64 k), (13, .int .i64 (firstC s p k)), (12, .int .i64 (leftC s p c k)), (8, .obj 1008 s.phases.length), (7, .int .i64 (allC s p s.phases.length)), (6, .int .i64 (restC s c s.phases.length)), (5, .ptr 96 1 0 0), (4, .ptr 32 1 0 0)], [(1008, ⟨.arr, 3, 1, ints (wishL s p s.phases.length)⟩), (1024, ⟨.arr, 3, 1, ints (sl2 s p c k)⟩), (96, ⟨.box, 36, 3, [.agg [.int .i64 c, .int .i64 o, .obj 1024 s.phases.length]]⟩), (32, ⟨.box, 36, 3, [.agg [.int .i64 0, .int .i64 0, .nilS]]⟩)], 4096, [], 175, 0, []⟩

set_option maxHeartbeats 8000000 in
theorem near17_spec (s : Sit) (hOk : SiteOk s) : Near17 s := by
  intro p
  have hpu := (⟨grps_pure s.groups, phas_pure s.phases, eyes_pure s.eyes, plns_pure s.plans, sets_pure s.apart, rows_pure s.between⟩ : _ ∧ _ ∧ _ ∧ _ ∧ _ ∧ _)
  obtain ⟨hp1, hp2, hp3, hp4, hp5, hp6⟩ := hpu
  have hip := ints_pure p.splits
  have qk := fun i hi => gap_spec s i (groups_site.1 hOk).1 hi
  have hsv : sitV s = .agg [.int .i64 s.id, .sl 3 (s.groups.map grpV), .sl 1 (sets s.apart), .sl 1 (rows s.between), .sl 5 (s.phases.map phaV), .sl 4 (s.eyes.map eyeV), .int .i64 s.watch, .int .i64 s.feed, .int .i64 s.heal, .int .i64 s.low, .int .i64 s.high, .sl 3 (s.plans.map plnV)] := rfl
  have hpv : plnV p = .agg [.int .i64 p.cycle, .int .i64 p.offset, .sl 1 (ints p.splits)] := rfl
  have hcv : plnV (clampN s p) = .agg [.int .i64 (cycC s p), .int .i64 ((p.offset.tmod (cycC s p) + cycC s p).tmod (cycC s p)), .sl 1 (ints (clampL s p (cycC s p)))] := rfl
  rw [hsv] at qk ⊢
  rw [hpv, hcv]
  refine fnD_of mixed Tryd.func115 rfl rfl (by simp [Tryd.ntmps115]) fun hwf E => ?_
  simp (disch := omega) [go_sem, sets_len, rows_len, ints_len] at hwf
  have hL := hOk.low
  have hN := hOk.needs
  have h4 : timedN s = true := hOk 4 (by omega)
  simp [timedN, inN] at h4
  have h8 := (groups_site.1 hOk).2.1.1
  have hrb : roundK s s.phases.length ≤ cycC s p ∧ cycC s p ≤ 1048576 := by unfold cycC; repeat' split <;> omega
  have hc1 : 1 ≤ cycC s p := by unfold cycC; repeat' split <;> omega
  have hcy : cycC s p = if s.high < (if p.cycle < s.low then s.low else p.cycle) then s.high else (if p.cycle < s.low then s.low else p.cycle) := rfl
  generalize cycC s p = c at *
  have hm1 := Int.tmod_lt_of_pos p.offset (show 0 < c by omega)
  have hm2 := Int.lt_tmod_of_pos p.offset (show 0 < c by omega)
  have ho1 := off_neg (x := p.offset) (c := c) (by omega)
  have ho2 := off_pos (x := p.offset) (c := c) (by omega)
  generalize hf : (p.offset.tmod c + c).tmod c = f at *
  simp (disch := omega) [Tryd.ntmps115, go_sem]
  refine br_of (fun h1 => ?_) (fun h1 => ?_) <;> simp at h1 <;> simp (disch := omega) [go_sem] <;> refine br_of (fun h2 => ?_) (fun h2 => ?_) <;> simp at h2
  · omega
  all_goals
    first
    | (have hcz : c = s.low := by rw [hcy, if_neg (by rw [if_pos h1]; omega), if_pos h1]
       rw [← hcz])
    | (have hcz : c = s.high := by rw [hcy, if_pos (by rw [if_neg (by omega)]; omega)]
       rw [← hcz])
    | (have hcz : c = p.cycle := by rw [hcy, if_neg (by rw [if_neg (by omega)]; omega), if_neg (by omega)]
       rw [← hcz])
  all_goals
    simp (disch := omega) [go_sem]
    refine ⟨by omega, ?_⟩
    refine br_of (fun h3 => ?_) (fun h3 => ?_) <;> simp at h3
  all_goals
    simp (disch := omega) [go_sem]
    refine awz_loop mixed (nr1 s p c f) (fun k => k ≤ s.phases.length) (fun k => s.phases.length - k) 0 (by omega) ?_ ?_
    · refine (Le.mk [(0, some 0), (16, some 16), (32, some 32), (96, some 96), (1008, none), (1024, none)] [0, 16, 32, 96] ⟨rfl, rfl, rfl⟩ ?_ ?_ ?_) <;> simp [go_sem, nr1, sitV, plnV, hp1, hp2, hp3, hp4, hp5, hp6, hip, wishL, leastL, allC, restC, ints]
      refine ⟨?_, ?_⟩ <;> first | omega | exact (ho1 h3).symm | exact (ho2 (by omega)).symm
    · intro k hk
      have hwl := wishL_len s p k
      have hll := leastL_len s k
      have hwp := ints_pure (wishL s p k)
      have hlp := ints_pure (leastL s k)
      simp (disch := omega) [go_sem, nr1, sitV, plnV, ints_len]
      refine br_of (fun g => ?_) (fun g => ?_) <;> simp at g
      · have hkp : k < s.phases.length := by omega
        have hi2 : nth (s.phases.map phaV) k = phaV s.phases[k] := nth_map hkp
        have eM : s.phases[k].min = minAt s k := by simp [minAt, hkp]
        have hNd : needsN s k = minAt s k + clearN s k ((k + 1) % s.phases.length) := rfl
        have hls : ints (leastL s (k + 1)) = ints (leastL s k) ++ [.int .i64 (needsN s k)] := by rw [leastL_succ, ints_app]; rfl
        have hws : ints (wishL s p (k + 1)) = ints (wishL s p k) ++ [.int .i64 (wishP s p k)] := by rw [wishL_succ, ints_app]; rfl
        have hNk := hN k hkp
        have qkk := qk k hkp
        have hwb := wishP_bound (p := p) k hL hNk.1
        have hab := allC_bound (p := p) hL hN k (by omega)
        have hrb2 := restC_bound hN hrb (k := k) (by omega)
        generalize clearN s k ((k + 1) % s.phases.length) = d at *
        rw [hNd] at hNk
        simp (disch := omega) [go_sem, hkp, hi2, phaV, eM]
        refine callK_data qkk [] (by simp [go_sem, hp1, hp2, hp3, hp4, hp5, hp6]) (.inl rfl) (by simp [go_sem]) (fun _ => ?_)
        simp (disch := omega) [go_sem, hkp]
        refine ⟨.inl (by kernel_rfl), ?_⟩
        by_cases h5 : k < p.splits.length
        · have hgx := nth_ints h5
          have hgd : p.splits.getD k 0 = p.splits[k] := by simp [h5]
          simp (disch := omega) [go_sem, hkp, h5, hgx, ints_len]
          have hwn : needsN s k = minAt s k + d := hNd
          refine br_of (fun h6 => ?_) (fun h6 => ?_) <;> simp at h6
          · simp (disch := omega) [go_sem, hkp, h5, hgx, ints_len]
            refine ⟨.inl (by kernel_rfl), ?_⟩
            refine br_of (fun h7 => ?_) (fun h7 => ?_) <;> simp at h7
            · have hw1 : wishP s p k = s.high - needsN s k ∨ (s.high - needsN s k < 0 ∧ wishP s p k = 0) := by unfold wishP; rw [hgd, hwn]; repeat' split <;> omega
              simp (disch := omega) [go_sem, hkp, h5, hgx, ints_len]
              refine br_of (fun h8 => ?_) (fun h8 => ?_) <;> simp at h8
              · have hw2 : wishP s p k = 0 := by omega
                simp (disch := omega) [go_sem, hkp, h5, hgx, ints_len]
                refine ⟨⟨by omega, by omega, by omega⟩, ⟨by omega, by omega, by omega⟩, ?_⟩
                refine round_of (k + 1) (by omega) (by omega) (Le.mk [(0, some 0), (16, some 16), (32, some 32), (96, some 96), (1008, some 1008), (1024, some 1024)] [0, 16, 32, 96, 1008, 1024] ⟨rfl, rfl, rfl⟩ ?_ ?_ ?_) <;> simp [go_sem, nr1, sitV, plnV, hp1, hp2, hp3, hp4, hp5, hp6, hip, hwp, hlp, hws, hls, allC, restC, hw2, hNd]
              · have hw2 : wishP s p k = s.high - (minAt s k + d) := by omega
                simp (disch := omega) [go_sem, hkp, h5, hgx, ints_len]
                refine ⟨⟨by omega, by omega, by omega⟩, ⟨by omega, by omega, by omega⟩, ?_⟩
                refine round_of (k + 1) (by omega) (by omega) (Le.mk [(0, some 0), (16, some 16), (32, some 32), (96, some 96), (1008, some 1008), (1024, some 1024)] [0, 16, 32, 96, 1008, 1024] ⟨rfl, rfl, rfl⟩ ?_ ?_ ?_) <;> simp [go_sem, nr1, sitV, plnV, hp1, hp2, hp3, hp4, hp5, hp6, hip, hwp, hlp, hws, hls, allC, restC, hw2, hNd]
            · have hw1 : wishP s p k = p.splits[k] - (minAt s k + d) := by unfold wishP; rw [hgd, hwn]; repeat' split <;> omega
              simp (disch := omega) [go_sem, hkp, h5, hgx, ints_len]
              refine br_of (fun h8 => ?_) (fun h8 => ?_) <;> simp at h8
              · exfalso; omega
              · simp (disch := omega) [go_sem, hkp, h5, hgx, ints_len]
                refine ⟨⟨by omega, by omega, by omega⟩, ⟨by omega, by omega, by omega⟩, ?_⟩
                refine round_of (k + 1) (by omega) (by omega) (Le.mk [(0, some 0), (16, some 16), (32, some 32), (96, some 96), (1008, some 1008), (1024, some 1024)] [0, 16, 32, 96, 1008, 1024] ⟨rfl, rfl, rfl⟩ ?_ ?_ ?_) <;> simp [go_sem, nr1, sitV, plnV, hp1, hp2, hp3, hp4, hp5, hp6, hip, hwp, hlp, hws, hls, allC, restC, hw1, hNd]
          · have hw0 : wishP s p k = 0 := by unfold wishP; rw [hgd, hwn]; repeat' split <;> omega
            simp (disch := omega) [go_sem, hkp, h5, hgx, ints_len]
            refine ⟨⟨by omega, by omega, by omega⟩, ⟨by omega, by omega, by omega⟩, ?_⟩
            refine round_of (k + 1) (by omega) (by omega) (Le.mk [(0, some 0), (16, some 16), (32, some 32), (96, some 96), (1008, some 1008), (1024, some 1024)] [0, 16, 32, 96, 1008, 1024] ⟨rfl, rfl, rfl⟩ ?_ ?_ ?_) <;> simp [go_sem, nr1, sitV, plnV, hp1, hp2, hp3, hp4, hp5, hp6, hip, hwp, hlp, hws, hls, allC, restC, hw0, hNd]
        · have hz := wishP_none (s := s) (p := p) k (by omega) (hN k hkp).1 (by omega)
          have hob := nth_oob (ints p.splits) k (by rw [ints_len]; omega)
          simp (disch := omega) [go_sem, hkp, h5, ints_len, hob, partV]
          refine ⟨⟨by omega, by omega, by omega⟩, ⟨by omega, by omega, by omega⟩, ?_⟩
          refine round_of (k + 1) (by omega) (by omega) (Le.mk [(0, some 0), (16, some 16), (32, some 32), (96, some 96), (1008, some 1008), (1024, some 1024)] [0, 16, 32, 96, 1008, 1024] ⟨rfl, rfl, rfl⟩ ?_ ?_ ?_) <;> simp [go_sem, nr1, sitV, plnV, hp1, hp2, hp3, hp4, hp5, hp6, hip, hwp, hlp, hws, hls, allC, restC, hz, hNd]
      · have hke : k = s.phases.length := by omega
        subst hke
        simp (disch := omega) [go_sem]
        have hF := firstC_bound s p s.phases.length
        refine br_of (fun h9 => ?_) (fun h9 => ?_) <;> simp at h9
        · have hpos : 0 < s.phases.length := by omega
          have hn0 : nth (ints (leastL s s.phases.length)) 0 = .int .i64 (needsN s 0) := by rw [nth_ints (by rw [leastL_len]; exact hpos)]; simp [leastL]
          have hNk := hN 0 hpos
          have hrr := restC_bound hN hrb (k := s.phases.length) (by omega)
          have hcl := clampL_flat (s := s) (p := p) c (fun i hi => (wishP_bound (p := p) i hL (hN i hi).1).1) h9
          have hgd0 : (leastL s s.phases.length).getD 0 0 = needsN s 0 := by simp [leastL, hpos]
          rw [hgd0] at hcl
          rw [hcl]
          simp (disch := omega) [go_sem, ints_len, hll, hn0]
          refine ⟨hpos, ?_⟩
          have hcp := ints_pure ((leastL s s.phases.length).set 0 (needsN s 0 + restC s c s.phases.length))
          rw [ints_set]
          first | exact argsLe_self hcp | exact ⟨argsLe_self hcp, trivial⟩
        · simp (disch := omega) [go_sem]
          refine awz_loop mixed (nr2 s p c f) (fun k => k ≤ s.phases.length) (fun k => s.phases.length - k) 0 (by omega) ?_ ?_
          · refine (Le.mk [(32, some 32), (96, some 96), (1008, some 1008), (1024, some 1024)] [32, 96, 1008, 1024] ⟨rfl, rfl, rfl⟩ ?_ ?_ ?_) <;> simp [go_sem, nr2, hwp, hlp, sl2_zero, firstC, leftC]
          · intro k hk
            have hwl := wishL_len s p s.phases.length
            have hsl := sl2_len s p c k
            simp (disch := omega) [go_sem, nr2, ints_len, hwl]
            have hap : 0 < allC s p s.phases.length := by
              have := allC_bound (p := p) hL hN s.phases.length (by omega)
              omega
            refine br_of (fun g => ?_) (fun g => ?_) <;> simp at g
            · have hkp : k < s.phases.length := by omega
              have hnw : nth (ints (wishL s p s.phases.length)) k = .int .i64 (wishP s p k) := by rw [nth_ints (by rw [wishL_len]; exact hkp)]; simp [wishL]
              have hns : nth (ints (sl2 s p c k)) k = .int .i64 (needsN s k) := by rw [nth_ints (by rw [sl2_len]; exact hkp), sl2_at hkp]; simp
              have hsb := shareC_bound (p := p) hL hN hrb hkp
              have hlb := leftC_bound (p := p) hL hN hrb k (by omega)
              have hNk := hN k hkp
              have htd := hsb.2.2.2 hap
              simp (disch := omega) [go_sem, hkp, hnw, hns, ints_len, hwl, hsl, htd]
              refine ⟨by omega, ?_⟩
              have hst : (ints (sl2 s p c k)).set k (.int .i64 (needsN s k + shareC s p c k)) = ints (sl2 s p c (k + 1)) := by rw [ints_set, sl2_set hkp]
              have hlf : leftC s p c (k + 1) = leftC s p c k - shareC s p c k := rfl
              have hp2 := ints_pure (sl2 s p c (k + 1))
              refine br_of (fun h6 => ?_) (fun h6 => ?_) <;> simp at h6
              · have hfy := firstC_yes (s := s) (p := p) (k := k) ⟨h6.2, h6.1⟩
                simp (disch := omega) [go_sem, hkp, hnw, hns, ints_len, hwl, hsl, htd]
                refine round_of (k + 1) (by omega) (by omega) (Le.mk [(32, some 32), (96, some 96), (1008, some 1008), (1024, some 1024)] [32, 96, 1008, 1024] ⟨rfl, rfl, rfl⟩ ?_ ?_ ?_) <;> simp [go_sem, nr2, hwp, hp2, hst, hlf, hfy]
              · have hfn := firstC_no (s := s) (p := p) (k := k) (fun e => by have := h6 e.2; omega)
                simp (disch := omega) [go_sem, hkp, hnw, hns, ints_len, hwl, hsl, htd]
                refine round_of (k + 1) (by omega) (by omega) (Le.mk [(32, some 32), (96, some 96), (1008, some 1008), (1024, some 1024)] [32, 96, 1008, 1024] ⟨rfl, rfl, rfl⟩ ?_ ?_ ?_) <;> simp [go_sem, nr2, hwp, hp2, hst, hlf, hfn]
            · have hfs := firstC_some (s := s) (p := p) (fun i hi => (wishP_bound (p := p) i hL (hN i hi).1).1) s.phases.length (Nat.le_refl _) hap
              have hke : k = s.phases.length := by omega
              subst hke
              have hfb := firstC_bound s p s.phases.length
              have hlb := leftC_bound (p := p) hL hN hrb s.phases.length (Nat.le_refl _)
              obtain ⟨q, hq, hqe, hqt⟩ : ∃ q : Nat, q < s.phases.length ∧ firstC s p s.phases.length = (q : Int) ∧ (firstC s p s.phases.length).toNat = q := ⟨(firstC s p s.phases.length).toNat, by omega, by omega, rfl⟩
              have hsb := (shareC_bound (p := p) hL hN hrb hq).2
              have hnb := hN q hq
              have hns : nth (ints (sl2 s p c s.phases.length)) q = .int .i64 (needsN s q + shareC s p c q) := by rw [nth_ints (by rw [sl2_len]; exact hq), sl2_at hq]; simp [hq]
              have hcl : (ints (sl2 s p c s.phases.length)).set q (.int .i64 (needsN s q + shareC s p c q + leftC s p c s.phases.length)) = ints (clampL s p c) := by
                unfold clampL
                rw [hqt, ints_set, show (sl2 s p c s.phases.length).getD q 0 = needsN s q + shareC s p c q by
                  rw [List.getD_eq_getElem?_getD, List.getElem?_eq_getElem (by rw [sl2_len]; exact hq), sl2_at hq]; simp [hq]]
              have hcp := ints_pure (clampL s p c)
              simp (disch := omega) [go_sem, ints_len, hsl, hqe, hns, hcl, hq]
              simp [clampL, sl2_len]
end Go.Proofs.YtdeionjkcmpnpaaDoor
