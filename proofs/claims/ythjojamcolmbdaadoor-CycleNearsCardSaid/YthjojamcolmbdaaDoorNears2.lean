/- CycleNears: its walk. -/
import Derived.Test.YthjojamcolmbdaaDoorNears
namespace Go.Proofs.YthjojamcolmbdaaDoor
open Go.AM Go.RowKit
set_option maxRecDepth 100000

def neF (n : NetN) (load to : Int) (S : Nat) (k : Nat × (Int × Int × Int)) : St :=
  ⟨[(15, .int .i64 k.1), (14, .int .i64 S), (8, .int .i64 to), (12, .sl 1 (ints (cycN n (cycK n + 1)))), (4, .ptr 16 1 0 0), (3, .ptr 0 1 0 0), (2, .int .i64 load), (6, .bool false)], [(16, ⟨.box, 87, 3, [voteV k.2]⟩), (0, ⟨.box, 59, 6, [netV n]⟩)], 1024, [], 168, 0, tabG⟩

def neG (n : NetN) (load to : Int) (S k : Nat) (v r : Int × Int × Int) (q : Nat) : St :=
  ⟨[(19, .int .i64 q), (18, .bool (decide (r.1 ∈ (cycN n (cycK n + 1)).take q))), (17, .int .i64 0), (16, .ptr 512 1 0 0), (15, .int .i64 k), (14, .int .i64 S), (8, .int .i64 to), (12, .sl 1 (ints (cycN n (cycK n + 1)))), (4, .ptr 16 1 0 0), (3, .ptr 0 1 0 0), (2, .int .i64 load), (6, .bool false)], [(512, ⟨.box, 87, 3, [voteV r]⟩), (16, ⟨.box, 87, 3, [voteV v]⟩), (0, ⟨.box, 59, 6, [netV n]⟩)], 4096, [], 168, 0, tabG⟩
set_option maxHeartbeats 4000000 in
theorem nears_spec (n : NetN) (v : Int × Int × Int) (load : Int) : FnD Tryd.prog 10 [netV n, voteV v, .int .i64 load] (.bool true) tabG := by
  have hp1 := sits_pure n.sites
  have hp2 := subs_pure n.subs
  have hp3 := weds_pure n.weds
  have hg := greatN_spec n
  have hw := wish_spec n load
  have hn := fun v => next_spec n v load
  have hc := cycles_spec n
  have hnv : netV n = .agg [.sl 12 (n.sites.map sitV), .sl 2 (n.subs.map subV), .sl 4 (n.weds.map wedV), .int .i64 n.low, .int .i64 n.high, .int .i64 n.step] := rfl
  rw [hnv] at hg hw hc hn ⊢
  obtain ⟨now, wish0, many⟩ := v
  have hvv : voteV (now, wish0, many) = .agg [.int .i64 now, .int .i64 wish0, .int .i64 many] := rfl
  have hn0 := hn (now, wish0, many)
  rw [hvv] at hn0 ⊢
  refine fnD_of mixed Tryd.func10 rfl rfl (by simp [Tryd.ntmps10]) fun hwf E => ?_
  simp (disch := omega) [Tryd.ntmps10, go_sem]
  refine callK_data alive25_spec [] (by simp [go_sem]) (.inl rfl) (by simp [go_sem]) (fun _ => ?_) (by simp [tabG, go_sem])
  simp (disch := omega) [go_sem]
  refine callK_bool hg [] (by simp [go_sem, hp1, hp2, hp3]) (fun h1 => ?_) (fun h1 => ?_)
  · simp (disch := omega) [go_sem]
  · simp (disch := omega) [go_sem]
    refine callK_data hw [] (by simp [go_sem, hp1, hp2, hp3]) (.inl rfl) (by simp [go_sem, wishE]) (fun _ => ?_) (by simp [tabG, go_sem])
    simp (disch := omega) [go_sem, wishE]
    refine callK_data hn0 [] (by simp [go_sem, hp1, hp2, hp3]) (.inl rfl) (by simp [go_sem, voteV]) (fun _ => ?_) (by simp [tabG, go_sem])
    simp (disch := omega) [go_sem, voteV]
    refine callK_data hc [] (by simp [go_sem, hp1, hp2, hp3]) (.inl rfl) (by simp [go_sem, ints_pure]) (fun _ => ?_) (by simp [tabG, go_sem])
    by_cases hOk : NetOk n
    · by_cases hL : 0 ≤ load ∧ load ≤ 65536
      · by_cases hV : (inM now && (inM wish0 && inM many)) = true ∧ now ∈ cycN n (cycK n + 1)
        · have hT := hOk.1
          have hq := hT.q
          have hst := hT.2.2.1
          obtain ⟨a0, ha0, rfl⟩ := mem_cyc.1 hV.2
          have e1 := wishC_ok hOk hL
          have e2 := nextC_ok (v := (cycAt n a0, wish0, many)) hOk hV hL
          have e3 : wishN n load = cycAt n (wishI n load) := rfl
          have hjK : wishI n load ≤ cycK n := by unfold wishI; omega
          generalize wishI n load = j at *
          have hb0 := cyc_bound hT hV.2
          have hbj := cyc_bound hT (mem_cyc.2 ⟨j, hjK, rfl⟩)
          have hdiff : cycAt n j - cycAt n a0 = n.step * ((j : Int) - a0) := by unfold cycAt; rw [Int.mul_sub]; omega
          have hdiv : (cycAt n j - cycAt n a0).tdiv n.step = (j : Int) - a0 := by
            rw [hdiff]; exact Int.mul_tdiv_cancel_left _ (by omega)
          rw [netN_ok hOk, allCyc_ok hOk]
          have hj64 : j ≤ 64 ∧ a0 ≤ 64 := by omega
          have hv0 : nearInv n j (distN a0 j) 0 (cycAt n a0, wish0, many) := by
            have hm := hV.1
            simp only [Bool.and_eq_true] at hm
            exact ⟨a0, ha0, rfl, hm.2.1, hm.2.2, fun _ => by omega, fun h => by omega⟩
          simp (disch := omega) [go_sem, e1, e2, e3, hdiv]
          refine ⟨by omega, ?_⟩
          refine br_of (fun h2 => ?_) (fun h2 => ?_) <;> simp at h2
          all_goals
            simp (disch := omega) [go_sem, hdiv]
            refine awz_loop mixed (neF n load (cycAt n j) (distN a0 j)) (fun k => k.1 ≤ 3 * distN a0 j + 3 ∧ nearInv n j (distN a0 j) k.1 k.2) (fun k => 3 * distN a0 j + 3 - k.1) (0, (cycAt n a0, wish0, many)) ⟨by simp, hv0⟩ ?_ ?_
            · refine Le.mk [(0, some 0), (16, some 16)] [0, 16] ⟨rfl, rfl, rfl⟩ ?_ ?_ ?_ <;> simp [go_sem, neF, netV, voteV, hp1, hp2, hp3, ints_pure]
              unfold distN; omega
            · rintro ⟨k, u⟩ ⟨hk, hu⟩
              simp only at hk hu
              have hval := near_valid hT hu
              have hnu := hn u
              have hR := near_round hT hjK hu rfl
              have hE := near_end hu
              rw [nextC_ok hOk hval hL, nextV_ok (nextC_ok hOk hval hL), e3] at hnu
              generalize heardN u.1 u.2.1 u.2.2 (towards u.1 (cycAt n j) n.step) 3 = r at *
              obtain ⟨hR1, hR2, hR3⟩ := hR
              have hrm := (near_valid hT hR1).2
              have hrb := cyc_bound hT hrm
              have hub := cyc_bound hT hval.2
              have hSb : distN a0 j ≤ 64 := by unfold distN; omega
              generalize distN a0 j = S at *
              obtain ⟨un, uw, um⟩ := u
              obtain ⟨rn, rw', rm⟩ := r
              simp only at *
              have hvu : voteV (un, uw, um) = .agg [.int .i64 un, .int .i64 uw, .int .i64 um] := rfl
              have hvr : voteV (rn, rw', rm) = .agg [.int .i64 rn, .int .i64 rw', .int .i64 rm] := rfl
              rw [hvu, hvr] at hnu
              simp (disch := omega) [go_sem, neF, netV, voteV]
              refine br_of (fun h3 => ?_) (fun h3 => ?_) <;> simp at h3
              · simp (disch := omega) [go_sem]
                refine callK_data hnu [] (by simp [go_sem, hp1, hp2, hp3]) (.inl rfl) (by simp [go_sem]) (fun _ => ?_) (by simp [tabG, go_sem])
                simp (disch := omega) [go_sem]
                refine awz_loop mixed (neG n load (cycAt n j) S k (un, uw, um) (rn, rw', rm)) (fun q => q ≤ cycK n + 1) (fun q => cycK n + 1 - q) 0 (by simp) ?_ ?_
                · refine Le.mk [(0, some 0), (16, some 16), (512, some 1216)] [0, 16, 1216] ⟨rfl, rfl, rfl⟩ ?_ ?_ ?_ <;> simp [go_sem, neG, netV, voteV, hp1, hp2, hp3, ints_pure]
                · intro q hq2
                  simp (disch := omega) [go_sem, neG, netV, voteV, ints_len, cycN_len]
                  refine br_of (fun h4 => ?_) (fun h4 => ?_) <;> simp at h4
                  · have e5 : nth (ints (cycN n (cycK n + 1))) q = .int .i64 (cycAt n q) := by
                      rw [nth_ints (by rw [cycN_len]; omega)]
                      simp [cycN]
                    have e6 : decide (rn ∈ (cycN n (cycK n + 1)).take (q + 1)) = (decide (rn ∈ (cycN n (cycK n + 1)).take q) || decide (cycAt n q = rn)) := by
                      rw [List.take_succ_eq_append_getElem (by rw [cycN_len]; omega), show (cycN n (cycK n + 1))[q]'(by rw [cycN_len]; omega) = cycAt n q by simp [cycN], Bool.eq_iff_iff]
                      simp only [List.mem_append, List.mem_singleton, Bool.or_eq_true, decide_eq_true_eq]
                      exact or_congr Iff.rfl ⟨fun e => e.symm, fun e => e.symm⟩
                    simp (disch := omega) [go_sem, ints_len, cycN_len, e5]
                    refine ⟨fun _ => by omega, fun _ => by omega, by kernel_rfl, ?_⟩
                    refine round_of (q + 1) (by omega) (by omega) (Le.mk [(0, some 0), (16, some 16), (512, some 512)] [0, 16, 512] ⟨rfl, rfl, rfl⟩ ?_ ?_ ?_) <;> simp [go_sem, neG, netV, voteV, hp1, hp2, hp3, ints_pure, e6]
                    rfl
                  · have hql : q = cycK n + 1 := by omega
                    have hrm2 : rn ∈ (cycN n (cycK n + 1)).take q := by
                      rw [hql, List.take_of_length_le (by rw [cycN_len]; omega)]
                      exact hrm
                    simp (disch := omega) [go_sem, hrm2]
                    refine ⟨by omega, by omega, by omega, ?_⟩
                    refine br_of (fun h5 => ?_) (fun h5 => ?_)
                    · simp at h5
                      omega
                    · simp (disch := omega) [go_sem]
                      refine round_of (k + 1, (rn, rw', rm)) ⟨by simp only; omega, hR1⟩ (by simp only; omega) (Le.mk [(0, some 0), (16, some 16)] [0, 16] ⟨rfl, rfl, rfl⟩ ?_ ?_ ?_) <;> simp [go_sem, neF, netV, voteV, hp1, hp2, hp3, ints_pure]
              · simp (disch := omega) [go_sem]
                exact hE (by omega)
        · have e2 := nextC_arg (v := (now, wish0, many)) (load := load) hOk hV
          simp (disch := omega) [go_sem, e2, wishC_ok hOk hL]
      · simp (disch := omega) [go_sem, wishC_arg hOk hL]
    · simp (disch := omega) [go_sem, wishC_bad hOk]
end Go.Proofs.YthjojamcolmbdaaDoor
