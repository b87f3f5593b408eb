
/- The document's own cycles of a region; what is the same. -/
import Derived.Test.YtdeionjkcmpnpaaGreatDoorTwin2
import Derived.Test.YtdeionjkcmpnpaaGreatDoorAsk6
set_option linter.unusedSimpArgs false
set_option linter.unusedVariables false
namespace Go.Proofs.YtdeionjkcmpnpaaGreatDoor
open Go.AM Go.RowKit
set_option maxRecDepth 100000

def rcyF (n : NetN) : Nat → St
  | 0 => ⟨[(4, .int .i64 n.low), (3, .nilS), (1, .ptr 0 1 0 0), (2, .nilS)], [(0, ⟨.box, 26, 6, [netV n]⟩)], 1024, [], 20, 0, []⟩
  | k + 1 => ⟨[(4, .int .i64 (cycAt n (k + 1))), (3, .obj 512 (k + 1)), (1, .ptr 0 1 0 0), (2, .nilS)], [(512, ⟨.arr, 3, 1, ints (cycN n (k + 1))⟩), (0, ⟨.box, 26, 6, [netV n]⟩)], 1024, [], 20, 0, []⟩
set_option maxHeartbeats 4000000 in
theorem rnsame_spec (n : NetN) : FnD Tryz.prog 14 [netV n, netV n] (.bool true) := by
  have hp1 := sits_pure n.sites
  have hp2 := subs_pure n.subs
  have hp3 := weds_pure n.weds
  unfold netV
  refine fnD_of mixed Tryz.func14 rfl rfl (by simp [Tryz.ntmps14]) fun hwf E => ?_
  simp (disch := omega) [go_sem] at hwf
  simp (disch := omega) [Tryz.ntmps14, go_sem]
  refine awz_loop mixed (fun k : Nat => ⟨[(5, .int .i64 k), (3, .ptr 16 1 0 0), (2, .ptr 0 1 0 0), (4, .bool false)], [(16, ⟨.box, 26, 6, [netV n]⟩), (0, ⟨.box, 26, 6, [netV n]⟩)], 1024, [], 155, 0, []⟩)
    (fun k => k ≤ n.sites.length) (fun k => n.sites.length - k) 0 (by omega) ?_ ?_
  · refine Le.mk [(0, some 0), (16, some 16)] [0, 16] ⟨rfl, rfl, rfl⟩ ?_ ?_ ?_ <;> simp [go_sem, netV, hp1, hp2, hp3]
  · intro k hk
    simp (disch := omega) [go_sem, netV]
    refine br_of (fun h => ?_) (fun h => ?_) <;> simp at h
    · have hg : nth (n.sites.map sitV) k = sitV n.sites[k] := nth_map h
      have hpt : partV Tryz.prog 87 (sitV n.sites[k]) 0 = some (sitV n.sites[k]) := rfl
      simp (disch := omega) [go_sem, h, hg, hpt]
      refine callK_data (rsames_spec n.sites[k]) [] (by simp [go_sem, sit_pure]) (.inl rfl) (by simp [go_sem]) (fun _ => ?_)
      simp (disch := omega) [go_sem]
      refine ⟨.inl (by kernel_rfl), ?_⟩
      refine round_of (k + 1) (by omega) (by omega) (Le.mk [(0, some 0), (16, some 16)] [0, 16] ⟨rfl, rfl, rfl⟩ ?_ ?_ ?_) <;> simp [go_sem, netV, hp1, hp2, hp3]
    · have hkl : k = n.sites.length := by omega
      clear h
      subst hkl
      simp (disch := omega) [go_sem]
      refine awz_loop mixed (fun k : Nat => ⟨[(6, .int .i64 k), (3, .ptr 16 1 0 0), (2, .ptr 0 1 0 0), (4, .bool false)], [(16, ⟨.box, 26, 6, [netV n]⟩), (0, ⟨.box, 26, 6, [netV n]⟩)], 2048, [], 155, 0, []⟩)
        (fun k => k ≤ n.subs.length) (fun k => n.subs.length - k) 0 (by omega) ?_ ?_
      · refine Le.mk [(0, some 0), (16, some 16)] [0, 16] ⟨rfl, rfl, rfl⟩ ?_ ?_ ?_ <;> simp [go_sem, netV, hp1, hp2, hp3]
      · intro k hk
        simp (disch := omega) [go_sem, netV]
        refine br_of (fun h => ?_) (fun h => ?_) <;> simp at h
        · have hg : nth (n.subs.map subV) k = subV n.subs[k] := nth_map h
          simp (disch := omega) [go_sem, h, hg, subV]
          refine callK_data (rsame_spec n.subs[k].sites) [] (by simp [go_sem, ints_pure]) (.inl rfl) (by simp [go_sem]) (fun _ => ?_)
          simp (disch := omega) [go_sem]
          refine ⟨.inl (by kernel_rfl), ?_⟩
          refine round_of (k + 1) (by omega) (by omega) (Le.mk [(0, some 0), (16, some 16)] [0, 16] ⟨rfl, rfl, rfl⟩ ?_ ?_ ?_) <;> simp [go_sem, netV, hp1, hp2, hp3]
        · have hkl : k = n.subs.length := by omega
          clear h
          subst hkl
          simp (disch := omega) [go_sem]
          refine awz_loop mixed (fun k : Nat => ⟨[(7, .int .i64 k), (3, .ptr 16 1 0 0), (2, .ptr 0 1 0 0), (4, .bool false)], [(16, ⟨.box, 26, 6, [netV n]⟩), (0, ⟨.box, 26, 6, [netV n]⟩)], 3072, [], 155, 0, []⟩)
            (fun k => k ≤ n.weds.length) (fun k => n.weds.length - k) 0 (by omega) ?_ ?_
          · refine Le.mk [(0, some 0), (16, some 16)] [0, 16] ⟨rfl, rfl, rfl⟩ ?_ ?_ ?_ <;> simp [go_sem, netV, hp1, hp2, hp3]
          · intro k hk
            simp (disch := omega) [go_sem, netV]
            refine br_of (fun h => ?_) (fun h => ?_) <;> simp at h
            · have hg : nth (n.weds.map wedV) k = wedV n.weds[k] := nth_map h
              simp (disch := omega) [go_sem, h, hg, wedV]
              refine ⟨.inl (by kernel_rfl), ?_⟩
              try simp (disch := omega) [go_sem]
              refine callK_data (rsame_spec n.weds[k].offsets) [] (by simp [go_sem, ints_pure]) (.inl rfl) (by simp [go_sem]) (fun _ => ?_)
              simp (disch := omega) [go_sem]
              refine round_of (k + 1) (by omega) (by omega) (Le.mk [(0, some 0), (16, some 16)] [0, 16] ⟨rfl, rfl, rfl⟩ ?_ ?_ ?_) <;> simp [go_sem, netV, hp1, hp2, hp3]
            · simp (disch := omega) [go_sem]
end Go.Proofs.YtdeionjkcmpnpaaGreatDoor
