/- The document's own cycles of a region; what is the same. -/
import Derived.Test.YthjojamcolmbdaaDoorTwin2
import Derived.Test.YthjojamcolmbdaaDoorAsk6
set_option linter.unusedSimpArgs false
set_option linter.unusedVariables false
namespace Go.Proofs.YthjojamcolmbdaaDoor
open Go.AM Go.RowKit
set_option maxRecDepth 100000

def rcyF (n : NetN) : Nat → St
  | 0 => ⟨[(4, .int .i64 n.low), (3, .nilS), (1, .ptr 0 1 0 0), (2, .nilS)], [(0, ⟨.box, 59, 6, [netV n]⟩)], 1024, [], 20, 0, []⟩
  | k + 1 => ⟨[(4, .int .i64 (cycAt n (k + 1))), (3, .obj 512 (k + 1)), (1, .ptr 0 1 0 0), (2, .nilS)], [(512, ⟨.arr, 3, 1, ints (cycN n (k + 1))⟩), (0, ⟨.box, 59, 6, [netV n]⟩)], 1024, [], 20, 0, []⟩
set_option maxHeartbeats 1000000 in
theorem rcycles_spec (n : NetN) (hOk : NetOk n) : FnD Tryd.prog 46 [netV n] (.sl 1 (ints (allCyc n))) := by
  have hp1 := sits_pure n.sites
  have hp2 := subs_pure n.subs
  have hp3 := weds_pure n.weds
  have hnv : netV n = .agg [.sl 12 (n.sites.map sitV), .sl 2 (n.subs.map subV), .sl 4 (n.weds.map wedV), .int .i64 n.low, .int .i64 n.high, .int .i64 n.step] := rfl
  rw [allCyc_ok hOk]
  rw [hnv]
  refine fnD_of mixed Tryd.func46 rfl rfl (by simp [Tryd.ntmps46]) fun hwf E => ?_
  have hT := hOk.1
  have hq := hT.q
  simp (disch := omega) [Tryd.ntmps46, go_sem]
  refine awz_loop mixed (rcyF n) (fun k => k ≤ cycK n + 1) (fun k => cycK n + 1 - k) 0 (by simp) ?_ ?_
  · refine Le.mk [(0, some 0)] [0] ⟨rfl, rfl, rfl⟩ ?_ ?_ ?_ <;> simp [go_sem, rcyF, netV, hp1, hp2, hp3]
  · rintro k hk
    cases k with
    | zero =>
      have h0 := hT.2.1
      have hb := hT.at_bound (i := 1) (by omega)
      have e : cycAt n 1 = n.low + n.step := by simp [cycAt]
      have e0 : cycAt n 0 = n.low := by simp [cycAt]
      rw [e] at hb
      simp (disch := omega) [go_sem, rcyF, netV]
      refine br_of (fun h => ?_) (fun h => ?_) <;> simp at h
      · simp (disch := omega) [go_sem]
        refine round_of 1 (by omega) (by omega) (Le.mk [(0, some 0), (512, some 1136)] [0, 1136] ⟨rfl, rfl, rfl⟩ ?_ ?_ ?_) <;> simp [go_sem, rcyF, netV, hp1, hp2, hp3, e, e0, cycN, ints]
      · omega
    | succ k =>
      have hb := hT.at_bound (i := k + 1) (by omega)
      have ha := hT.at (i := k + 1)
      have hs := cycN_succ n (k + 1)
      simp (disch := omega) [go_sem, rcyF, netV]
      refine br_of (fun h => ?_) (fun h => ?_) <;> simp at h
      · simp (disch := omega) [go_sem, ints_len, cycN_len]
        refine ⟨by omega, ?_⟩
        have e : cycAt n (k + 1) + n.step = cycAt n (k + 1 + 1) := by
          unfold cycAt
          rw [show ((k + 1 + 1 : Nat) : Int) = ((k + 1 : Nat) : Int) + 1 by omega, Int.mul_add]; omega
        have hb2 := hT.at_bound (i := k + 1 + 1) (by omega)
        have hs2 : ints (cycN n (k + 1 + 1)) = ints (cycN n (k + 1)) ++ [.int .i64 (cycAt n (k + 1))] := by rw [hs, ints_app]; rfl
        rw [e, i64_wrap (by omega) (by omega)]
        refine round_of (k + 1 + 1) (by omega) (by omega) (Le.mk [(0, some 0), (512, some 512)] [0, 512] ⟨rfl, rfl, rfl⟩ ?_ ?_ ?_) <;> simp [go_sem, rcyF, netV, hp1, hp2, hp3, hs2, ints_pure]
      · have hkk : k = cycK n := by omega
        subst hkk
        simp (disch := omega) [go_sem, ints_len, cycN_len]
        exact argsLe_self (ints_pure _)

set_option maxHeartbeats 4000000 in
theorem rnsame_spec (n : NetN) : FnD Tryd.prog 47 [netV n, netV n] (.bool true) := by
  have hp1 := sits_pure n.sites
  have hp2 := subs_pure n.subs
  have hp3 := weds_pure n.weds
  unfold netV
  refine fnD_of mixed Tryd.func47 rfl rfl (by simp [Tryd.ntmps47]) fun hwf E => ?_
  simp (disch := omega) [go_sem] at hwf
  simp (disch := omega) [Tryd.ntmps47, go_sem]
  refine awz_loop mixed (fun k : Nat => ⟨[(5, .int .i64 k), (3, .ptr 16 1 0 0), (2, .ptr 0 1 0 0), (4, .bool false)], [(16, ⟨.box, 59, 6, [netV n]⟩), (0, ⟨.box, 59, 6, [netV n]⟩)], 1024, [], 155, 0, []⟩)
    (fun k => k ≤ n.sites.length) (fun k => n.sites.length - k) 0 (by omega) ?_ ?_
  · refine Le.mk [(0, some 0), (16, some 16)] [0, 16] ⟨rfl, rfl, rfl⟩ ?_ ?_ ?_ <;> simp [go_sem, netV, hp1, hp2, hp3]
  · intro k hk
    simp (disch := omega) [go_sem, netV]
    refine br_of (fun h => ?_) (fun h => ?_) <;> simp at h
    · have hg : nth (n.sites.map sitV) k = sitV n.sites[k] := nth_map h
      have hpt : partV Tryd.prog 29 (sitV n.sites[k]) 0 = some (sitV n.sites[k]) := rfl
      simp (disch := omega) [go_sem, h, hg, hpt]
      refine callK_data (rsames_spec n.sites[k]) [] (by simp [go_sem, sit_pure]) (.inl rfl) (by simp [go_sem]) (fun _ => ?_)
      simp (disch := omega) [go_sem]
      refine ⟨by kernel_rfl, ?_⟩
      refine round_of (k + 1) (by omega) (by omega) (Le.mk [(0, some 0), (16, some 16)] [0, 16] ⟨rfl, rfl, rfl⟩ ?_ ?_ ?_) <;> simp [go_sem, netV, hp1, hp2, hp3]
    · have hkl : k = n.sites.length := by omega
      clear h
      subst hkl
      simp (disch := omega) [go_sem]
      refine awz_loop mixed (fun k : Nat => ⟨[(6, .int .i64 k), (3, .ptr 16 1 0 0), (2, .ptr 0 1 0 0), (4, .bool false)], [(16, ⟨.box, 59, 6, [netV n]⟩), (0, ⟨.box, 59, 6, [netV n]⟩)], 2048, [], 155, 0, []⟩)
        (fun k => k ≤ n.subs.length) (fun k => n.subs.length - k) 0 (by omega) ?_ ?_
      · refine Le.mk [(0, some 0), (16, some 16)] [0, 16] ⟨rfl, rfl, rfl⟩ ?_ ?_ ?_ <;> simp [go_sem, netV, hp1, hp2, hp3]
      · intro k hk
        simp (disch := omega) [go_sem, netV]
        refine br_of (fun h => ?_) (fun h => ?_) <;> simp at h
        · have hg : nth (n.subs.map subV) k = subV n.subs[k] := nth_map h
          simp (disch := omega) [go_sem, h, hg, subV]
          refine callK_data (rsame_spec n.subs[k].sites) [] (by simp [go_sem, ints_pure]) (.inl rfl) (by simp [go_sem]) (fun _ => ?_)
          simp (disch := omega) [go_sem]
          refine ⟨by kernel_rfl, ?_⟩
          refine round_of (k + 1) (by omega) (by omega) (Le.mk [(0, some 0), (16, some 16)] [0, 16] ⟨rfl, rfl, rfl⟩ ?_ ?_ ?_) <;> simp [go_sem, netV, hp1, hp2, hp3]
        · have hkl : k = n.subs.length := by omega
          clear h
          subst hkl
          simp (disch := omega) [go_sem]
          refine awz_loop mixed (fun k : Nat => ⟨[(7, .int .i64 k), (3, .ptr 16 1 0 0), (2, .ptr 0 1 0 0), (4, .bool false)], [(16, ⟨.box, 59, 6, [netV n]⟩), (0, ⟨.box, 59, 6, [netV n]⟩)], 3072, [], 155, 0, []⟩)
            (fun k => k ≤ n.weds.length) (fun k => n.weds.length - k) 0 (by omega) ?_ ?_
          · refine Le.mk [(0, some 0), (16, some 16)] [0, 16] ⟨rfl, rfl, rfl⟩ ?_ ?_ ?_ <;> simp [go_sem, netV, hp1, hp2, hp3]
          · intro k hk
            simp (disch := omega) [go_sem, netV]
            refine br_of (fun h => ?_) (fun h => ?_) <;> simp at h
            · have hg : nth (n.weds.map wedV) k = wedV n.weds[k] := nth_map h
              simp (disch := omega) [go_sem, h, hg, wedV]
              refine ⟨by kernel_rfl, ?_⟩
              try simp (disch := omega) [go_sem]
              refine callK_data (rsame_spec n.weds[k].offsets) [] (by simp [go_sem, ints_pure]) (.inl rfl) (by simp [go_sem]) (fun _ => ?_)
              simp (disch := omega) [go_sem]
              refine round_of (k + 1) (by omega) (by omega) (Le.mk [(0, some 0), (16, some 16)] [0, 16] ⟨rfl, rfl, rfl⟩ ?_ ?_ ?_) <;> simp [go_sem, netV, hp1, hp2, hp3]
            · simp (disch := omega) [go_sem]
end Go.Proofs.YthjojamcolmbdaaDoor
