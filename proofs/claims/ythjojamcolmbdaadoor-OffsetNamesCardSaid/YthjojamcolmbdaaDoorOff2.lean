/- The layer offset: votes for when cycles begin. -/
import Derived.Test.YthjojamcolmbdaaDoorOff
import Derived.Test.YthjojamcolmbdaaDoorWed
set_option linter.unusedSimpArgs false
set_option linter.unusedVariables false
namespace Go.Proofs.YthjojamcolmbdaaDoor
open Go.AM Go.RowKit
set_option maxRecDepth 100000

noncomputable def owedE (n : NetN) (w : Int) : Int := if NetOk n then (if 0 ≤ w ∧ w < n.weds.length then 0 else 2) else 60
theorem owedE_zero {n : NetN} {w : Int} (h : owedE n w = 0) : NetOk n ∧ 0 ≤ w ∧ w < n.weds.length := by
  unfold owedE at h
  by_cases h1 : NetOk n
  · rw [if_pos h1] at h
    by_cases h2 : 0 ≤ w ∧ w < n.weds.length
    · exact ⟨h1, h2⟩
    · rw [if_neg h2] at h; cases h
  · rw [if_neg h1] at h; cases h
theorem owed_spec (n : NetN) (w : Int) : FnD Tryd.prog 120 [netV n, .int .i64 w] (.int .i64 (owedE n w)) tabG := by
  have hp1 := sits_pure n.sites
  have hp2 := subs_pure n.subs
  have hp3 := weds_pure n.weds
  have hc := ncheck_spec n
  have hnv : netV n = .agg [.sl 12 (n.sites.map sitV), .sl 2 (n.subs.map subV), .sl 4 (n.weds.map wedV), .int .i64 n.low, .int .i64 n.high, .int .i64 n.step] := rfl
  rw [hnv] at hc ⊢
  refine fnD_of mixed Tryd.func120 rfl rfl (by simp [Tryd.ntmps120]) fun hwf E => ?_
  simp (disch := omega) [Tryd.ntmps120, go_sem]
  refine callK_data hc [] (by simp [go_sem, hp1, hp2, hp3]) (.inl rfl) (by simp [go_sem]) (fun _ => ?_) (by simp [tabG, go_sem])
  unfold owedE
  by_cases hOk : NetOk n
  · rw [if_pos hOk, netN_ok hOk]
    by_cases h0 : w < 0
    · rw [if_neg (by omega)]
      simp (disch := omega) [go_sem, h0]
    · by_cases h1 : (n.weds.length : Int) ≤ w
      · rw [if_neg (by omega)]
        simp (disch := omega) [go_sem, h0, h1]
      · rw [if_pos (by omega)]
        simp (disch := omega) [go_sem, h0, h1]
  · rw [if_neg hOk, netN_bad hOk]
    simp (disch := omega) [go_sem]

/-- A wed's plans. -/
def offsN (n : NetN) (w : Int) : List Int := ((n.weds[w.toNat]?).map WedN.offsets).getD []
theorem offs_at {n : NetN} {w : Nat} (h : w < n.weds.length) : offsN n w = n.weds[w].offsets := by simp [offsN, h]
noncomputable def votedE (n : NetN) (w : Int) (v : Int × Int × Int) : Int := if owedE n w = 0 then (if (0 ≤ v.1 ∧ v.1 < (offsN n w).length) ∧ inM v.2.1 = true ∧ inM v.2.2 = true then 0 else 2) else owedE n w
set_option maxHeartbeats 1000000 in
theorem voted_spec (n : NetN) (w : Int) (v : Int × Int × Int) : FnD Tryd.prog 123 [netV n, .int .i64 w, voteV v] (.int .i64 (votedE n w v)) tabG := by
  have hp1 := sits_pure n.sites
  have hp2 := subs_pure n.subs
  have hp3 := weds_pure n.weds
  have qw := owed_spec n w
  have hz := owedE_zero (n := n) (w := w)
  have hnv : netV n = .agg [.sl 12 (n.sites.map sitV), .sl 2 (n.subs.map subV), .sl 4 (n.weds.map wedV), .int .i64 n.low, .int .i64 n.high, .int .i64 n.step] := rfl
  rw [hnv] at qw ⊢
  obtain ⟨v1, v2, v3⟩ := v
  unfold voteV votedE
  generalize owedE n w = e at *
  refine fnD_of mixed Tryd.func123 rfl rfl (by simp [Tryd.ntmps123]) fun hwf E => ?_
  simp (disch := omega) [go_sem] at hwf
  simp (disch := omega) [Tryd.ntmps123, go_sem]
  refine callK_data qw [] (by simp [go_sem, hp1, hp2, hp3]) (.inl rfl) (by simp [go_sem]) (fun _ => ?_) (by simp [tabG, go_sem])
  simp (disch := omega) [go_sem]
  refine br_of (fun h => ?_) (fun h => ?_) <;> simp at h
  · rw [if_neg h]
    simp (disch := omega) [go_sem]
  · rw [if_pos h]
    obtain ⟨hOk, hw0, hw1⟩ := hz h
    obtain ⟨i, rfl⟩ := Int.eq_ofNat_of_zero_le hw0
    have hi : i < n.weds.length := by omega
    rw [offs_at hi]
    have hg : nth (n.weds.map wedV) i = wedV n.weds[i] := nth_map hi
    generalize n.weds[i] = u at *
    simp (disch := omega) [go_sem, hi, hg, wedV, ints_len]
    have hI2 : inM v2 = (decide (0 ≤ v2) && decide (v2 ≤ 1048576)) := rfl
    have hI3 : inM v3 = (decide (0 ≤ v3) && decide (v3 ≤ 1048576)) := rfl
    refine ⟨by kernel_rfl, ?_⟩
    refine br_of (fun h1 => ?_) (fun h1 => ?_) <;> simp at h1
    · rw [if_neg (by rw [hI2, hI3]; simp; omega)]
      simp (disch := omega) [go_sem]
    · rw [if_pos (by rw [hI2, hI3]; simp; omega)]
      simp (disch := omega) [go_sem]

theorem votedE_zero {n : NetN} {w : Int} {v : Int × Int × Int} (h : votedE n w v = 0) : (NetOk n ∧ 0 ≤ w ∧ w < n.weds.length) ∧ (0 ≤ v.1 ∧ v.1 < (offsN n w).length) ∧ inM v.2.1 = true ∧ inM v.2.2 = true := by
  unfold votedE at h
  by_cases h1 : owedE n w = 0
  · rw [if_pos h1] at h
    by_cases h2 : (0 ≤ v.1 ∧ v.1 < (offsN n w).length) ∧ inM v.2.1 = true ∧ inM v.2.2 = true
    · exact ⟨owedE_zero h1, h2⟩
    · rw [if_neg h2] at h; cases h
  · rw [if_neg h1] at h; exact absurd h h1

/-- The first eight loads. -/
def at8 (l : List Int) : List Int := (List.range 8).map fun i => l.getD i 0
theorem at8_eq (l : List Int) : l.take (min 8 l.length) ++ (List.replicate 8 0).drop (min 8 l.length) = at8 l := by
  apply List.ext_getElem?
  intro j
  unfold at8
  by_cases hj : j < 8
  · by_cases hl : j < l.length
    · rw [List.getElem?_append_left (by simp; omega)]
      rw [List.getElem?_take, if_pos (by omega)]
      simp [hj, hl]
    · rw [List.getElem?_append_right (by simp; omega)]
      rw [List.getElem?_drop, List.getElem?_replicate, if_pos (by simp; omega)]
      simp [hj, hl]
  · rw [List.getElem?_append_right (by simp; omega)]
    simp [hj, List.getElem?_replicate]
    omega
theorem at8_len (l : List Int) : (at8 l).length = 8 := by simp [at8]
theorem at8_fix {l : List Int} (h : loadedN l = 0) (m : Nat) : loadedN ((at8 l).take m) = 0 := by
  refine loadedN_ok (by rw [List.length_take, at8_len]; omega) fun i hi => ?_
  rw [List.length_take, at8_len] at hi
  rw [List.getElem_take]
  simp only [at8, List.getElem_map, List.getElem_range]
  by_cases hl : i < l.length
  · have := (loadedN_zero h).2 i hl
    rw [List.getD_eq_getElem?_getD, List.getElem?_eq_getElem hl]
    simp [fixI]; omega
  · simp [hl, fixI]
/-- The plan that loads wish. -/
def owishI (n : NetN) (w : Int) (l : List Int) : Int := if loadedN l = 0 then hiK ((at8 l).take (offsN n w).length) ((at8 l).take (offsN n w).length).length else 0
theorem owishI_bound {n : NetN} {w : Int} {l : List Int} (h1 : 1 ≤ (offsN n w).length) (h8 : (offsN n w).length ≤ 8) : 0 ≤ owishI n w l ∧ owishI n w l < (offsN n w).length := by
  unfold owishI
  split
  · have hlen : ((at8 l).take (offsN n w).length).length = (offsN n w).length := by rw [List.length_take, at8_len]; omega
    have := hiK_bound ((at8 l).take (offsN n w).length) ((at8 l).take (offsN n w).length).length
    omega
  · omega
theorem offs_len {n : NetN} {w : Int} (hOk : NetOk n) (h0 : 0 ≤ w) (h1 : w < n.weds.length) : 1 ≤ (offsN n w).length ∧ (offsN n w).length ≤ 8 := by
  obtain ⟨i, rfl⟩ := Int.eq_ofNat_of_zero_le h0
  have hi : i < n.weds.length := by omega
  rw [offs_at hi]
  exact (hOk.2.2.2.2.2 _ (List.getElem_mem hi)).2.2.2.2.1
set_option maxHeartbeats 1000000 in
theorem owish_spec (n : NetN) (w : Nat) (l : List Int) (hw : w < n.weds.length) (h8 : 1 ≤ n.weds[w].offsets.length ∧ n.weds[w].offsets.length ≤ 8) : FnD Tryd.prog 121 [netV n, .int .i64 w, .sl 1 (ints l)] (.tup [.int .i64 (owishI n w l), .int .i64 (loadedN l)]) := by
  have hp1 := sits_pure n.sites
  have hp2 := subs_pure n.subs
  have hp3 := weds_pure n.weds
  have hil := ints_pure l
  have q1 := highest_spec l
  have q2 := highest_spec ((at8 l).take n.weds[w].offsets.length)
  have hi0 : owishI n w l = if loadedN l = 0 then hiK ((at8 l).take n.weds[w].offsets.length) ((at8 l).take n.weds[w].offsets.length).length else 0 := by unfold owishI; rw [offs_at hw]
  rw [hi0]
  have hl8 := at8_len l
  have hfix := fun h => at8_fix (l := l) h n.weds[w].offsets.length
  have hnv : netV n = .agg [.sl 12 (n.sites.map sitV), .sl 2 (n.subs.map subV), .sl 4 (n.weds.map wedV), .int .i64 n.low, .int .i64 n.high, .int .i64 n.step] := rfl
  rw [hnv]
  have hg : nth (n.weds.map wedV) w = wedV n.weds[w] := nth_map hw
  have hcp : (ints l).take (min 8 l.length) ++ List.drop (min 8 l.length) [V.int .i64 0, .int .i64 0, .int .i64 0, .int .i64 0, .int .i64 0, .int .i64 0, .int .i64 0, .int .i64 0] = ints (at8 l) := by
    rw [← at8_eq, ints_app]
    unfold ints
    congr 1
    · exact List.map_take.symm
    · exact (List.map_drop (l := List.replicate 8 (0 : Int))).symm
  have hsc : ∀ l, scs (ints l) = true := fun l => by
    induction l with
    | nil => rfl
    | cons x l ih => simpa [ints, scs, V.sc] using ih
  generalize n.weds[w] = u at *
  refine fnD_of mixed Tryd.func121 rfl rfl (by simp [Tryd.ntmps121]) fun hwf E => ?_
  simp (disch := omega) [Tryd.ntmps121, go_sem]
  refine callK_data q1 [] (by simp [go_sem, hil]) (.inl rfl) (by simp [go_sem]) (fun _ => ?_)
  simp (disch := omega) [go_sem]
  refine br_of (fun h1 => ?_) (fun h1 => ?_) <;> simp at h1
  · rw [if_neg h1]
    simp (disch := omega) [go_sem]
  · rw [if_pos h1]
    have e1 : highI ((at8 l).take u.offsets.length) = hiK ((at8 l).take u.offsets.length) ((at8 l).take u.offsets.length).length := by unfold highI; rw [if_pos (hfix h1)]
    rw [hfix h1, e1] at q2
    simp (disch := omega) [go_sem, hw, hg, hcp, hsc, wedV, ints_len, hl8]
    refine ⟨by omega, ?_⟩
    have htk : (ints (at8 l)).take u.offsets.length = ints ((at8 l).take u.offsets.length) := by unfold ints; exact List.map_take.symm
    have hpt := ints_pure ((at8 l).take u.offsets.length)
    refine callK_data q2 [224] ?_ (.inr (by simp [go_sem])) (by simp [go_sem]) (fun _ => ?_)
    · simp [go_sem, ints_len, hl8, htk]
      exact ⟨h8.2, argsLe_self hpt⟩
    · simp (disch := omega) [go_sem]
      exact h1.symm

def ovoteC (x : (Int × Int × Int) × Int) : V := .tup [voteV x.1, .int .i64 x.2]
noncomputable def owishE (n : NetN) (w : Int) (l : List Int) : Int := if owedE n w = 0 then loadedN l else owedE n w
noncomputable def oWishI (n : NetN) (w : Int) (l : List Int) : Int := if owedE n w = 0 then owishI n w l else 0
theorem oWish_spec (n : NetN) (w : Int) (l : List Int) : FnD Tryd.prog 58 [netV n, .int .i64 w, .sl 1 (ints l)] (.tup [.int .i64 (oWishI n w l), .int .i64 (owishE n w l)]) tabG := by
  have hp1 := sits_pure n.sites
  have hp2 := subs_pure n.subs
  have hp3 := weds_pure n.weds
  have hil := ints_pure l
  have qw := owed_spec n w
  have hz := owedE_zero (n := n) (w := w)
  have q := fun (i : Nat) h h8 => owish_spec n i l h h8
  have hnv : netV n = .agg [.sl 12 (n.sites.map sitV), .sl 2 (n.subs.map subV), .sl 4 (n.weds.map wedV), .int .i64 n.low, .int .i64 n.high, .int .i64 n.step] := rfl
  rw [hnv] at qw q ⊢
  unfold oWishI owishE
  generalize owedE n w = e at *
  refine fnD_of mixed Tryd.func58 rfl rfl (by simp [Tryd.ntmps58]) fun hwf E => ?_
  clear hwf
  simp (disch := omega) [Tryd.ntmps58, go_sem]
  refine callK_data qw [] (by simp [go_sem, hp1, hp2, hp3]) (.inl rfl) (by simp [go_sem]) (fun _ => ?_) (by simp [tabG, go_sem])
  simp (disch := omega) [go_sem]
  refine br_of (fun h => ?_) (fun h => ?_) <;> simp at h
  · rw [if_neg h, if_neg h]
    simp (disch := omega) [go_sem]
  · rw [if_pos h, if_pos h]
    obtain ⟨hOk, hw0, hw1⟩ := hz h
    have h8 := offs_len hOk hw0 hw1
    obtain ⟨i, rfl⟩ := Int.eq_ofNat_of_zero_le hw0
    have hi : i < n.weds.length := by omega
    rw [offs_at hi] at h8
    simp (disch := omega) [go_sem]
    refine callK_data (q i hi h8) [] (by simp [go_sem, hp1, hp2, hp3, hil]) (.inl rfl) (by simp [go_sem]) (fun _ => ?_)
    simp (disch := omega) [go_sem]
noncomputable def oNextV (n : NetN) (w : Int) (v : Int × Int × Int) (l : List Int) : (Int × Int × Int) × Int :=
  if votedE n w v = 0 then (if loadedN l = 0 then tallyN v.1 v.2.1 v.2.2 (owishI n w l) (votesAt n w) else ((0, 0, 0), loadedN l)) else ((0, 0, 0), votedE n w v)
set_option maxHeartbeats 1000000 in
theorem oNext_spec (n : NetN) (w : Int) (v : Int × Int × Int) (l : List Int) : FnD Tryd.prog 60 [netV n, .int .i64 w, voteV v, .sl 1 (ints l)] (voteE (oNextV n w v l)) tabG := by
  have hp1 := sits_pure n.sites
  have hp2 := subs_pure n.subs
  have hp3 := weds_pure n.weds
  have hil := ints_pure l
  have qw := voted_spec n w v
  have hz := votedE_zero (n := n) (w := w) (v := v)
  have q := fun (i : Nat) h h8 => owish_spec n i l h h8
  have hnv : netV n = .agg [.sl 12 (n.sites.map sitV), .sl 2 (n.subs.map subV), .sl 4 (n.weds.map wedV), .int .i64 n.low, .int .i64 n.high, .int .i64 n.step] := rfl
  rw [hnv] at qw q ⊢
  obtain ⟨v1, v2, v3⟩ := v
  have qt := fun x y => tally_spec v1 v2 v3 x y
  unfold oNextV
  generalize votedE n w (v1, v2, v3) = e at *
  generalize loadedN l = e2 at *
  unfold voteV at qw qt ⊢
  refine fnD_of mixed Tryd.func60 rfl rfl (by simp [Tryd.ntmps60]) fun hwf E => ?_
  clear hwf
  simp (disch := omega) [Tryd.ntmps60, go_sem]
  refine callK_data qw [] (by simp [go_sem, hp1, hp2, hp3]) (.inl rfl) (by simp [go_sem]) (fun _ => ?_) (by simp [tabG, go_sem])
  simp (disch := omega) [go_sem]
  refine br_of (fun h => ?_) (fun h => ?_) <;> simp at h
  · rw [if_neg h]
    simp (disch := omega) [go_sem, voteE, voteV]
  · rw [if_pos h]
    obtain ⟨⟨hOk, hw0, hw1⟩, _⟩ := hz h
    have h8 := offs_len hOk hw0 hw1
    obtain ⟨i, rfl⟩ := Int.eq_ofNat_of_zero_le hw0
    have hi : i < n.weds.length := by omega
    rw [offs_at hi] at h8
    have hva : votesAt n i = n.weds[i].votes := by simp [votesAt, hi]
    rw [hva]
    have hg : nth (n.weds.map wedV) i = wedV n.weds[i] := nth_map hi
    have q1 := q i hi h8
    generalize owishI n i l = x at *
    have qt1 := qt x n.weds[i].votes
    generalize n.weds[i] = u at *
    simp (disch := omega) [go_sem]
    refine callK_data q1 [] (by simp [go_sem, hp1, hp2, hp3, hil]) (.inl rfl) (by simp [go_sem]) (fun _ => ?_)
    simp (disch := omega) [go_sem]
    refine br_of (fun h1 => ?_) (fun h1 => ?_) <;> simp at h1
    · rw [if_neg h1]
      simp (disch := omega) [go_sem, voteE, voteV]
    · rw [if_pos h1]
      generalize tallyN v1 v2 v3 x u.votes = t at *
      obtain ⟨⟨t1, t2, t3⟩, t4⟩ := t
      simp (disch := omega) [go_sem, hi, hg, wedV]
      refine callK_data qt1 [] (by simp [go_sem]) (.inl rfl) (by simp [go_sem, voteE, voteV]) (fun _ => ?_)
      simp (disch := omega) [go_sem, voteE, voteV]
      try kernel_rfl
noncomputable def oOfV (n : NetN) (w : Int) (v : Int × Int × Int) : Int := if votedE n w v = 0 then (offsN n w).getD v.1.toNat 0 else 0
theorem oOf_spec (n : NetN) (w : Int) (v : Int × Int × Int) : FnD Tryd.prog 61 [netV n, .int .i64 w, voteV v] (.tup [.int .i64 (oOfV n w v), .int .i64 (votedE n w v)]) tabG := by
  have hp1 := sits_pure n.sites
  have hp2 := subs_pure n.subs
  have hp3 := weds_pure n.weds
  have qw := voted_spec n w v
  have hz := votedE_zero (n := n) (w := w) (v := v)
  have hnv : netV n = .agg [.sl 12 (n.sites.map sitV), .sl 2 (n.subs.map subV), .sl 4 (n.weds.map wedV), .int .i64 n.low, .int .i64 n.high, .int .i64 n.step] := rfl
  rw [hnv] at qw ⊢
  obtain ⟨v1, v2, v3⟩ := v
  unfold oOfV
  generalize votedE n w (v1, v2, v3) = e at *
  unfold voteV at qw ⊢
  refine fnD_of mixed Tryd.func61 rfl rfl (by simp [Tryd.ntmps61]) fun hwf E => ?_
  clear hwf
  simp (disch := omega) [Tryd.ntmps61, go_sem]
  refine callK_data qw [] (by simp [go_sem, hp1, hp2, hp3]) (.inl rfl) (by simp [go_sem]) (fun _ => ?_) (by simp [tabG, go_sem])
  simp (disch := omega) [go_sem]
  refine br_of (fun h => ?_) (fun h => ?_) <;> simp at h
  · rw [if_neg h]
    simp (disch := omega) [go_sem]
  · rw [if_pos h]
    obtain ⟨⟨hOk, hw0, hw1⟩, hv, _⟩ := hz h
    obtain ⟨i, rfl⟩ := Int.eq_ofNat_of_zero_le hw0
    have hi : i < n.weds.length := by omega
    rw [offs_at hi] at hv ⊢
    have hg : nth (n.weds.map wedV) i = wedV n.weds[i] := nth_map hi
    simp only at hv
    obtain ⟨j, rfl⟩ := Int.eq_ofNat_of_zero_le hv.1
    generalize n.weds[i] = u at *
    have hj : j < u.offsets.length := by omega
    simp (disch := omega) [go_sem, hi, hg, wedV, nth_ints, ints_len, hj]
    exact ⟨by kernel_rfl, h.symm⟩
end Go.Proofs.YthjojamcolmbdaaDoor
