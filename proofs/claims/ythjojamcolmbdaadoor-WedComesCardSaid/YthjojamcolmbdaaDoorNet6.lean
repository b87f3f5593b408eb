/- The layer net: Cycles. -/
import Derived.Test.YthjojamcolmbdaaDoorNet5
namespace Go.Proofs.YthjojamcolmbdaaDoor
open Go.AM Go.RowKit
set_option maxRecDepth 100000

noncomputable def allCyc (n : NetN) : List Int := if NetOk n then cycN n (cycK n + 1) else []
theorem allCyc_ok {n : NetN} (h : NetOk n) : allCyc n = cycN n (cycK n + 1) := by unfold allCyc; rw [if_pos h]
theorem allCyc_bad {n : NetN} (h : ¬ NetOk n) : allCyc n = [] := by unfold allCyc; rw [if_neg h]
def cyF (n : NetN) : Nat → St
  | 0 => ⟨[(6, .int .i64 n.low), (5, .nilS), (1, .ptr 0 1 0 0), (2, .nilS), (3, .int .i64 0)], [(0, ⟨.box, 59, 6, [netV n]⟩)], 1024, [], 27, 0, tabG⟩
  | k + 1 => ⟨[(6, .int .i64 (cycAt n (k + 1))), (5, .obj 512 (k + 1)), (1, .ptr 0 1 0 0), (2, .nilS), (3, .int .i64 0)], [(512, ⟨.arr, 3, 1, ints (cycN n (k + 1))⟩), (0, ⟨.box, 59, 6, [netV n]⟩)], 1024, [], 27, 0, tabG⟩

theorem ints_app (a b : List Int) : ints (a ++ b) = ints a ++ ints b := by simp [ints]
set_option maxHeartbeats 1000000 in
theorem cycles_spec (n : NetN) : FnD Tryd.prog 42 [netV n] (.tup [.sl 1 (ints (allCyc n)), .int .i64 (netN n)]) tabG := by
  have hp1 := sits_pure n.sites
  have hp2 := subs_pure n.subs
  have hp3 := weds_pure n.weds
  have hc := ncheck_spec n
  have hnv : netV n = .agg [.sl 12 (n.sites.map sitV), .sl 2 (n.subs.map subV), .sl 4 (n.weds.map wedV), .int .i64 n.low, .int .i64 n.high, .int .i64 n.step] := rfl
  rw [hnv] at hc ⊢
  refine fnD_of mixed Tryd.func42 rfl rfl (by simp [Tryd.ntmps42]) fun hwf E => ?_
  simp (disch := omega) [Tryd.ntmps42, go_sem]
  refine callK_data hc [] (by simp [go_sem, hp1, hp2, hp3]) (.inl rfl) (by simp [go_sem]) (fun _ => ?_) (by simp [tabG, go_sem])
  by_cases hOk : NetOk n
  · rw [netN_ok hOk, allCyc_ok hOk]
    have hT := hOk.1
    have hq := hT.q
    simp (disch := omega) [go_sem]
    refine awz_loop mixed (cyF n) (fun k => k ≤ cycK n + 1) (fun k => cycK n + 1 - k) 0 (by simp) ?_ ?_
    · refine Le.mk [(0, some 0)] [0] ⟨rfl, rfl, rfl⟩ ?_ ?_ ?_ <;> simp [go_sem, cyF, netV, hp1, hp2, hp3]
    · rintro k hk
      cases k with
      | zero =>
        have h0 := hT.2.1
        have hb := hT.at_bound (i := 1) (by omega)
        have e : cycAt n 1 = n.low + n.step := by simp [cycAt]
        have e0 : cycAt n 0 = n.low := by simp [cycAt]
        rw [e] at hb
        simp (disch := omega) [go_sem, cyF, netV]
        refine br_of (fun h => ?_) (fun h => ?_) <;> simp at h
        · simp (disch := omega) [go_sem]
          refine round_of 1 (by omega) (by omega) (Le.mk [(0, some 0), (512, some 1136)] [0, 1136] ⟨rfl, rfl, rfl⟩ ?_ ?_ ?_) <;> simp [go_sem, cyF, netV, hp1, hp2, hp3, e, e0, cycN, ints]
        · omega
      | succ k =>
        have hb := hT.at_bound (i := k + 1) (by omega)
        have ha := hT.at (i := k + 1)
        have hs := cycN_succ n (k + 1)
        simp (disch := omega) [go_sem, cyF, netV]
        refine br_of (fun h => ?_) (fun h => ?_) <;> simp at h
        · simp (disch := omega) [go_sem, ints_len, cycN_len]
          refine ⟨by omega, ?_⟩
          have e : cycAt n (k + 1) + n.step = cycAt n (k + 1 + 1) := by
            unfold cycAt
            rw [show ((k + 1 + 1 : Nat) : Int) = ((k + 1 : Nat) : Int) + 1 by omega, Int.mul_add]; omega
          have hb2 := hT.at_bound (i := k + 1 + 1) (by omega)
          have hs2 : ints (cycN n (k + 1 + 1)) = ints (cycN n (k + 1)) ++ [.int .i64 (cycAt n (k + 1))] := by rw [hs, ints_app]; rfl
          rw [e, i64_wrap (by omega) (by omega)]
          refine round_of (k + 1 + 1) (by omega) (by omega) (Le.mk [(0, some 0), (512, some 512)] [0, 512] ⟨rfl, rfl, rfl⟩ ?_ ?_ ?_) <;> simp [go_sem, cyF, netV, hp1, hp2, hp3, hs2, ints_pure]
        · have hkk : k = cycK n := by omega
          subst hkk
          simp (disch := omega) [go_sem, ints_len, cycN_len]
          exact argsLe_self (ints_pure _)
  · rw [netN_bad hOk, allCyc_bad hOk]
    simp (disch := omega) [go_sem, ints]
end Go.Proofs.YthjojamcolmbdaaDoor
