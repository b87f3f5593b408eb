/- The document's own answer on cycles. -/
import Derived.Test.YthjojamcolmbdaaDoorRefN
import Derived.Test.YthjojamcolmbdaaDoorCyc
set_option linter.unusedSimpArgs false
set_option linter.unusedVariables false
namespace Go.Proofs.YthjojamcolmbdaaDoor
open Go.AM Go.RowKit
set_option maxRecDepth 100000

theorem r25in_spec (n : Int) : FnD Tryd.prog 143 [.int .i64 n] (.bool (inM n)) := by
  refine fnD_of mixed Tryd.func143 rfl rfl (by simp [Tryd.ntmps143]) fun hwf E => ?_
  simp (disch := omega) [Tryd.ntmps143, go_sem]
  rfl

theorem r25may_spec (now wish many : Int) : FnD Tryd.prog 112 [voteV (now, wish, many)] (.bool (inM now && inM wish && inM many)) := by
  unfold voteV
  refine fnD_of mixed Tryd.func112 rfl rfl (by simp [Tryd.ntmps112]) fun hwf E => ?_
  simp (disch := omega) [Tryd.ntmps112, go_sem]
  refine callK_data (r25in_spec now) [] (by simp [go_sem]) (.inl rfl) (by simp [go_sem]) fun _ => ?_
  simp (disch := omega) [go_sem]
  refine gbr_of (fun h1 => ?_) (fun h1 => ?_) <;> simp only [h1]
  · simp (disch := omega) [go_sem]
    refine callK_data (r25in_spec wish) [] (by simp [go_sem]) (.inl rfl) (by simp [go_sem]) fun _ => ?_
    simp (disch := omega) [go_sem]
    refine gbr_of (fun h2 => ?_) (fun h2 => ?_) <;> simp only [h2]
    · simp (disch := omega) [go_sem]
      refine callK_data (r25in_spec many) [] (by simp [go_sem]) (.inl rfl) (by simp [go_sem]) fun _ => ?_
      simp (disch := omega) [go_sem]
    · simp (disch := omega) [go_sem]
  · simp (disch := omega) [go_sem]

theorem r25heard_spec (now wish0 many wish need : Int) (hm : many + 1 ≤ 9223372036854775807) : FnD Tryd.prog 144 [voteV (now, wish0, many), .int .i64 wish, .int .i64 need] (voteV (heardN now wish0 many wish need)) := by
  unfold voteV
  refine fnD_of mixed Tryd.func144 rfl rfl (by simp [Tryd.ntmps144]) fun hwf E => ?_
  simp (disch := omega) [go_sem] at hwf
  simp (disch := omega) [Tryd.ntmps144, go_sem]
  refine br_of (fun h1 => ?_) (fun h1 => ?_) <;> simp at h1
  · have e := heardN_eq (wish0 := wish0) (many := many) (need := need) h1
    simp (disch := omega) [go_sem, e]
  · simp (disch := omega) [go_sem]
    refine br_of (fun h2 => ?_) (fun h2 => ?_) <;> simp at h2
    · have h2' : wish = wish0 ∧ 0 < many := ⟨h2.1.symm, h2.2⟩
      simp (disch := omega) [go_sem]
      refine br_of (fun h3 => ?_) (fun h3 => ?_) <;> simp at h3
      · have e := heardN_up (now := now) (need := need) h1 h2' (by omega)
        simp (disch := omega) [go_sem, e]
      · have e := heardN_more (now := now) (need := need) h1 h2' (by omega)
        simp (disch := omega) [go_sem, e, Int.add_comm]
    · have h2' : wish = wish0 → many ≤ 0 := fun h => h2 h.symm
      simp (disch := omega) [go_sem]
      refine br_of (fun h3 => ?_) (fun h3 => ?_) <;> simp at h3
      · simp (disch := omega) [go_sem, heardN_up1 h1 h2' h3]
      · simp (disch := omega) [go_sem, heardN_one h1 h2' h3]


theorem wished_spec (n : NetN) (load : Int) (hT : TimedOk n) (hL : 0 ≤ load ∧ load ≤ 65536) : FnD Tryd.prog 111 [netV n, .int .i64 load] (.int .i64 (wishN n load)) := by
  have hp1 := sits_pure n.sites
  have hp2 := subs_pure n.subs
  have hp3 := weds_pure n.weds
  have hq := hT.q
  obtain ⟨t1, t2, t3, t4, t5⟩ := id hT
  have hqd : (n.high - n.low).tdiv n.step = (n.high - n.low) / n.step := Int.tdiv_eq_ediv_of_nonneg (by omega)
  have hq0 : 0 ≤ (n.high - n.low) / n.step := Int.ediv_nonneg (by omega) (by omega)
  have hKi : (n.high - n.low).tdiv n.step = (cycK n : Int) := by rw [hqd]; unfold cycK; omega
  have hb0 : 0 ≤ load * ((cycK n : Int) + 1) := Int.mul_nonneg hL.1 (by omega)
  have hb1 : load * ((cycK n : Int) + 1) ≤ 65536 * 65 := Int.mul_le_mul hL.2 (by omega) (by omega) (by omega)
  have e0 : (load * ((cycK n : Int) + 1)).tdiv 65536 = load * ((cycK n : Int) + 1) / 65536 := Int.tdiv_eq_ediv_of_nonneg hb0
  have e1 : IntKind.i64.wrap ((load * ((cycK n : Int) + 1)).tdiv 65536) = load * ((cycK n : Int) + 1) / 65536 := by
    rw [e0]; exact i64_wrap (by omega) (by omega)
  have hwb := cyc_bound hT (wish_mem n load)
  have hwI : wishI n load ≤ cycK n := by unfold wishI; omega
  have hmb : 0 ≤ n.step * (wishI n load : Int) := Int.mul_nonneg (by omega) (by omega)
  have hwd : wishN n load = n.low + (wishI n load : Int) * n.step := by unfold wishN cycAt; rw [Int.mul_comm]
  have hwu : ((wishI n load : Nat) : Int) = if (cycK n : Int) < load * ((cycK n : Int) + 1) / 65536 then (cycK n : Int) else load * ((cycK n : Int) + 1) / 65536 := by
    unfold wishI
    split <;> omega
  rw [hwd] at hwb ⊢
  rw [Int.mul_comm] at hmb
  generalize load * ((cycK n : Int) + 1) / 65536 = Q at *
  unfold netV
  refine fnD_of mixed Tryd.func111 rfl rfl (by simp [Tryd.ntmps111]) fun hwf E => ?_
  simp (disch := omega) [go_sem] at hwf
  simp (disch := omega) [Tryd.ntmps111, go_sem, hKi, e1]
  refine ⟨by omega, ?_⟩
  refine br_of (fun h => ?_) (fun h => ?_) <;> simp at h
  · rw [if_pos h] at hwu
    rw [hwu] at hmb hwb ⊢
    simp (disch := omega) [go_sem]
  · rw [if_neg (by omega)] at hwu
    rw [hwu] at hmb hwb ⊢
    simp (disch := omega) [go_sem]

theorem mem_cyc2 {n : NetN} (hT : TimedOk n) {c : Int} : c ∈ cycN n (cycK n + 1) ↔ (n.low ≤ c ∧ c ≤ n.high) ∧ (c - n.low).tmod n.step = 0 := by
  have hs := hT.2.2.1
  rw [mem_cyc]
  constructor
  · rintro ⟨i, hi, rfl⟩
    have h1 := hT.at.2 hi
    have h2 : 0 ≤ n.step * (i : Int) := Int.mul_nonneg (by omega) (by omega)
    refine ⟨⟨by unfold cycAt; omega, h1⟩, ?_⟩
    rw [show cycAt n i - n.low = n.step * i by unfold cycAt; omega]
    exact Int.mul_tmod_right _ _
  · rintro ⟨⟨h1, h2⟩, h3⟩
    rw [Int.tmod_eq_emod_of_nonneg (by omega)] at h3
    have h4 := Int.mul_ediv_cancel_of_emod_eq_zero h3
    have h5 : 0 ≤ (c - n.low) / n.step := Int.ediv_nonneg (by omega) (by omega)
    obtain ⟨i, hi⟩ := Int.eq_ofNat_of_zero_le h5
    rw [hi] at h4
    have e : c = cycAt n i := by unfold cycAt; omega
    exact ⟨i, hT.at.1 (by omega), e⟩

theorem one_spec (n : NetN) (c : Int) (hT : TimedOk n) : FnD Tryd.prog 94 [netV n, .int .i64 c] (.bool (decide (c ∈ cycN n (cycK n + 1)))) := by
  have hq := hT.q
  obtain ⟨t1, t2, t3, t4, t5⟩ := id hT
  unfold netV
  refine fnD_of mixed Tryd.func94 rfl rfl (by simp [Tryd.ntmps94]) fun hwf E => ?_
  simp (disch := omega) [go_sem] at hwf
  simp (disch := omega) [Tryd.ntmps94, go_sem]
  refine ⟨fun _ _ => by omega, ?_⟩
  rw [Bool.eq_iff_iff, decide_eq_true_iff, mem_cyc2 hT]
  simp only [Bool.and_eq_true, decide_eq_true_eq, beq_iff_eq]

theorem r25wish_spec (n : NetN) (load : Int) : FnD Tryd.prog 53 [netV n, .int .i64 load] (wishE n load) := by
  have hp1 := sits_pure n.sites
  have hp2 := subs_pure n.subs
  have hp3 := weds_pure n.weds
  have hc := r6check_spec n
  have hw := fun h1 h2 => wished_spec n load h1 h2
  have hnv : netV n = .agg [.sl 12 (n.sites.map sitV), .sl 2 (n.subs.map subV), .sl 4 (n.weds.map wedV), .int .i64 n.low, .int .i64 n.high, .int .i64 n.step] := rfl
  rw [hnv] at hc hw ⊢
  refine fnD_of mixed Tryd.func53 rfl rfl (by simp [Tryd.ntmps53]) fun hwf E => ?_
  simp (disch := omega) [Tryd.ntmps53, go_sem]
  refine callK_data hc [] (by simp [go_sem, hp1, hp2, hp3]) (.inl rfl) (by simp [go_sem]) (fun _ => ?_)
  by_cases hOk : NetOk n
  · rw [netN_ok hOk]
    simp (disch := omega) [go_sem]
    refine br_of (fun h => ?_) (fun h => ?_) <;> simp at h
    · simp (disch := omega) [go_sem, wishE, wishC_arg hOk (load := load) (by omega)]
    · simp (disch := omega) [go_sem]
      refine callK_data (hw hOk.1 (by omega)) [] (by simp [go_sem, hp1, hp2, hp3]) (.inl rfl) (by simp [go_sem]) (fun _ => ?_)
      simp (disch := omega) [go_sem, wishE, wishC_ok hOk (load := load) (by omega)]
  · rw [netN_bad hOk]
    simp (disch := omega) [go_sem, wishE, wishC_bad hOk]

theorem r25later_spec (n : NetN) (v : Int × Int × Int) (load : Int) (hT : TimedOk n) (hL : 0 ≤ load ∧ load ≤ 65536) (hm : inM v.2.2 = true) (hn : v.1 ∈ cycN n (cycK n + 1)) :
    FnD Tryd.prog 113 [netV n, voteV v, .int .i64 load] (voteV (heardN v.1 v.2.1 v.2.2 (towards v.1 (wishN n load) n.step) 3)) := by
  have hp1 := sits_pure n.sites
  have hp2 := subs_pure n.subs
  have hp3 := weds_pure n.weds
  have hw := wished_spec n load hT hL
  obtain ⟨now, wish0, many⟩ := v
  simp only at hm hn ⊢
  have hmb := inM_iff.1 hm
  have hnb := cyc_bound hT hn
  have hwb := cyc_bound hT (wish_mem n load)
  have hst := hT.2.2.1
  have hh := fun wish => r25heard_spec now wish0 many wish 3 (by omega)
  have hnv : netV n = .agg [.sl 12 (n.sites.map sitV), .sl 2 (n.subs.map subV), .sl 4 (n.weds.map wedV), .int .i64 n.low, .int .i64 n.high, .int .i64 n.step] := rfl
  have hvv : voteV (now, wish0, many) = .agg [.int .i64 now, .int .i64 wish0, .int .i64 many] := rfl
  rw [hnv] at hw ⊢
  rw [hvv] at hh ⊢
  generalize wishN n load = to at *
  refine fnD_of mixed Tryd.func113 rfl rfl (by simp [Tryd.ntmps113]) fun hwf E => ?_
  simp (disch := omega) [Tryd.ntmps113, go_sem]
  refine callK_data hw [] (by simp [go_sem, hp1, hp2, hp3]) (.inl rfl) (by simp [go_sem]) (fun _ => ?_)
  simp (disch := omega) [go_sem]
  have fin : ∀ wish, towards now to n.step = wish → FnD Tryd.prog 144 [.agg [.int .i64 now, .int .i64 wish0, .int .i64 many], .int .i64 wish, .int .i64 3] (voteV (heardN now wish0 many (towards now to n.step) 3)) := fun wish e => by rw [e]; exact hh wish
  generalize hR : heardN now wish0 many (towards now to n.step) 3 = res at *
  obtain ⟨ra, rb, rc⟩ := res
  by_cases h1 : now < to
  · have h2 : ¬ to < now := by omega
    have q := fin (now + n.step) (by unfold towards; rw [if_pos h1])
    simp (disch := omega) [go_sem, h1, h2]
    refine callK_data q [] (by simp [go_sem]) (.inl rfl) (by simp [go_sem, voteV]) (fun _ => ?_)
    simp (disch := omega) [go_sem, voteV]
  · by_cases h2 : to < now
    · have q := fin (now - n.step) (by unfold towards; rw [if_neg h1, if_pos h2])
      simp (disch := omega) [go_sem, h1, h2]
      refine callK_data q [] (by simp [go_sem]) (.inl rfl) (by simp [go_sem, voteV]) (fun _ => ?_)
      simp (disch := omega) [go_sem, voteV]
    · have q := fin now (by unfold towards; rw [if_neg h1, if_neg h2])
      simp (disch := omega) [go_sem, h1, h2]
      refine callK_data q [] (by simp [go_sem]) (.inl rfl) (by simp [go_sem, voteV]) (fun _ => ?_)
      simp (disch := omega) [go_sem, voteV]

theorem r25next_spec (n : NetN) (v : Int × Int × Int) (load : Int) : FnD Tryd.prog 54 [netV n, voteV v, .int .i64 load] (.tup [voteV (nextV n v load), .int .i64 (nextC n v load)]) := by
  have hp1 := sits_pure n.sites
  have hp2 := subs_pure n.subs
  have hp3 := weds_pure n.weds
  have hc := r6check_spec n
  have ho := fun h => one_spec n v.1 h
  have hl := fun h1 h2 h3 h4 => r25later_spec n v load h1 h2 h3 h4
  obtain ⟨now, wish0, many⟩ := v
  have hmay := r25may_spec now wish0 many
  have hnv : netV n = .agg [.sl 12 (n.sites.map sitV), .sl 2 (n.subs.map subV), .sl 4 (n.weds.map wedV), .int .i64 n.low, .int .i64 n.high, .int .i64 n.step] := rfl
  have hvv : voteV (now, wish0, many) = .agg [.int .i64 now, .int .i64 wish0, .int .i64 many] := rfl
  rw [hnv] at hc ho hl ⊢
  rw [hvv] at hl hmay ⊢
  have arg : NetOk n → ¬ ((inM now && (inM wish0 && inM many)) = true ∧ now ∈ cycN n (cycK n + 1)) → nextC n (now, wish0, many) load = 2 ∧ voteV (nextV n (now, wish0, many) load) = .agg [.int .i64 0, .int .i64 0, .int .i64 0] := fun h1 h2 => by
    have e := nextC_arg (v := (now, wish0, many)) (load := load) h1 h2
    exact ⟨e, by rw [nextV_bad (by rw [e]; decide)]; rfl⟩
  refine fnD_of mixed Tryd.func54 rfl rfl (by simp [Tryd.ntmps54]) fun hwf E => ?_
  simp (disch := omega) [Tryd.ntmps54, go_sem]
  refine callK_data hc [] (by simp [go_sem, hp1, hp2, hp3]) (.inl rfl) (by simp [go_sem]) (fun _ => ?_)
  by_cases hOk : NetOk n
  · have arg := arg hOk
    rw [netN_ok hOk]
    simp (disch := omega) [go_sem]
    refine callK_bool hmay [] (by simp [go_sem]) (fun h1 => ?_) (fun h1 => ?_)
    · simp at h1
      have h1' : (inM now && (inM wish0 && inM many)) = true := by simp [h1]
      simp (disch := omega) [go_sem]
      refine callK_bool (ho hOk.1) [] (by simp [go_sem, hp1, hp2, hp3]) (fun h2 => ?_) (fun h2 => ?_)
      · have h2' : now ∈ cycN n (cycK n + 1) := of_decide_eq_true h2
        simp (disch := omega) [go_sem]
        refine br_of (fun h3 => ?_) (fun h3 => ?_) <;> simp at h3
        · have e := nextC_load (v := (now, wish0, many)) (load := load) hOk ⟨h1', h2'⟩ (by omega)
          have e2 : voteV (nextV n (now, wish0, many) load) = .agg [.int .i64 0, .int .i64 0, .int .i64 0] := by rw [nextV_bad (by rw [e]; decide)]; rfl
          simp (disch := omega) [go_sem, e, e2]
        · have e := nextC_ok (v := (now, wish0, many)) (load := load) hOk ⟨h1', h2'⟩ (by omega)
          have e2 := nextV_ok e
          have hl := hl hOk.1 (by omega) h1.2 h2'
          rw [e2]
          generalize heardN now wish0 many (towards now (wishN n load) n.step) 3 = res at *
          obtain ⟨ra, rb, rc⟩ := res
          simp (disch := omega) [go_sem]
          refine callK_data hl [] (by simp [go_sem, hp1, hp2, hp3]) (.inl rfl) (by simp [go_sem, voteV]) (fun _ => ?_)
          simp (disch := omega) [go_sem, voteV, e]
      · obtain ⟨e, e2⟩ := arg (fun h => of_decide_eq_false h2 h.2)
        simp (disch := omega) [go_sem, e, e2]
    · obtain ⟨e, e2⟩ := arg (fun h => by
        have := h.1
        simp at this h1
        have := h1 this.1 this.2.1
        simp_all)
      simp (disch := omega) [go_sem, e, e2]
  · rw [netN_bad hOk]
    have e := nextC_net (v := (now, wish0, many)) (load := load) hOk
    have e2 : voteV (nextV n (now, wish0, many) load) = .agg [.int .i64 0, .int .i64 0, .int .i64 0] := by rw [nextV_bad (by rw [e]; decide)]; rfl
    simp (disch := omega) [go_sem, e, e2]
end Go.Proofs.YthjojamcolmbdaaDoor
