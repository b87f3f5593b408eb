
/- The document's twins of regions. -/
import Derived.Test.YtdeionjkcmpnpaaGreatDoorRNet
set_option linter.unusedSimpArgs false
set_option linter.unusedVariables false
namespace Go.Proofs.YtdeionjkcmpnpaaGreatDoor
open Go.AM Go.RowKit
set_option maxRecDepth 100000

theorem greatN_lens {n : NetN} (h : greatN n = false) : (n.sites.length ≤ 20 ∧ n.subs.length ≤ 30 ∧ n.weds.length ≤ 30) ∧ (∀ s ∈ n.sites, greatS s = false) ∧ (∀ u ∈ n.subs, u.sites.length ≤ 60) ∧ ∀ u ∈ n.weds, u.offsets.length ≤ 60 := by
  unfold greatN at h
  simp only [Bool.or_eq_false_iff, decide_eq_false_iff_not, List.any_eq_false, decide_eq_true_eq] at h
  obtain ⟨⟨⟨h1, h2⟩, h3⟩, h4, h5, h6⟩ := h
  exact ⟨by omega, fun s hs => by simpa using h4 s hs, fun u hu => by have := h5 u hu; omega, fun u hu => by have := h6 u hu; omega⟩

/-- The twin's own cells. -/
def ntV (n : NetN) (a b c : V) : V := .agg [a, b, c, .int .i64 n.low, .int .i64 n.high, .int .i64 n.step]
def ntZ : V := .agg [.nilS, .nilS, .nilS, .int .i64 0, .int .i64 0, .int .i64 0]
def ntS (n : NetN) (t k : Nat) (hp : List (Nat × AM.Obj)) (a b c : V) (nx : Nat) : St := ⟨[(t, .int .i64 k), (3, .ptr 144 1 0 0), (2, .ptr 16 1 0 0), (1, .ptr 0 1 0 0)], hp ++ [(144, ⟨.box, 26, 6, [ntV n a b c]⟩), (16, ⟨.box, 26, 6, [ntZ]⟩), (0, ⟨.box, 26, 6, [netV n]⟩)], nx, [], 86, 0, []⟩
def nt1F (n : NetN) : Nat → St
  | 0 => ntS n 4 0 [] .nilS .nilS .nilS 1024
  | k + 1 => ntS n 4 (k + 1) [(512, ⟨.arr, 87, 12, (n.sites.take (k + 1)).map sitV⟩)] (.obj 512 (k + 1)) .nilS .nilS 1024
def nt2F (n : NetN) : Nat → St
  | 0 => ntS n 5 0 [] (.sl 12 (n.sites.map sitV)) .nilS .nilS 2048
  | k + 1 => ntS n 5 (k + 1) [(512, ⟨.arr, 95, 2, (n.subs.take (k + 1)).map subV⟩)] (.sl 12 (n.sites.map sitV)) (.obj 512 (k + 1)) .nilS 2048
def nt3F (n : NetN) : Nat → St
  | 0 => ntS n 6 0 [] (.sl 12 (n.sites.map sitV)) (.sl 2 (n.subs.map subV)) .nilS 3072
  | k + 1 => ntS n 6 (k + 1) [(512, ⟨.arr, 97, 4, (n.weds.take (k + 1)).map wedV⟩)] (.sl 12 (n.sites.map sitV)) (.sl 2 (n.subs.map subV)) (.obj 512 (k + 1)) 3072

set_option maxHeartbeats 8000000 in
theorem ntwin_spec (n : NetN) (hgr : greatN n = false) : FnD Tryz.prog 9 [netV n] (netV n) := by
  have hp1 := sits_pure n.sites
  have hp2 := subs_pure n.subs
  have hp3 := weds_pure n.weds
  obtain ⟨⟨l1, l2, l3⟩, g1, g2, g3⟩ := greatN_lens hgr
  unfold netV
  refine fnD_of mixed Tryz.func9 rfl rfl (by simp [Tryz.ntmps9]) fun hwf E => ?_
  simp (disch := omega) [go_sem] at hwf
  simp (disch := omega) [Tryz.ntmps9, go_sem]
  refine awz_loop mixed (nt1F n) (fun k => k ≤ n.sites.length) (fun k => n.sites.length - k) 0 (by omega) ?_ ?_
  · refine Le.mk [(0, some 0), (16, some 16), (144, some 144)] [0, 16, 144] ⟨rfl, rfl, rfl⟩ ?_ ?_ ?_ <;> simp [go_sem, nt1F, ntS, ntV, ntZ, netV, hp1, hp2, hp3]
  · intro k hk
    cases k with
    | zero =>
      simp (disch := omega) [go_sem, nt1F, ntS, ntV, ntZ, netV]
      refine br_of (fun h => ?_) (fun h => ?_) <;> simp at h
      · have h' : 0 < n.sites.length := by omega
        have hg : nth (n.sites.map sitV) 0 = sitV n.sites[0] := nth_map h'
        have ht : List.take 1 (n.sites.map sitV) = [sitV n.sites[0]] := by rw [List.take_succ_eq_append_getElem (by simpa using h')]; simp
        have hpt : partV Tryz.prog 87 (sitV n.sites[0]) 0 = some (sitV n.sites[0]) := rfl
        simp (disch := omega) [go_sem, h', hg, hpt]
        refine callK_data (twin_spec n.sites[0] (g1 _ (List.getElem_mem h'))) [] (by simp [go_sem, sit_pure]) (.inl rfl) (by simp [sit_pure]) (fun _ => ?_)
        simp (disch := omega) [go_sem, h', hg, hpt, sitV]
        refine ⟨.inl (by kernel_rfl), ?_⟩
        refine round_of 1 (by omega) (by omega) (Le.mk [(0, some 0), (16, some 16), (144, some 144), (512, some 1248)] [0, 16, 144, 1248] ⟨rfl, rfl, rfl⟩ ?_ ?_ ?_) <;> simp [go_sem, nt1F, ntS, ntV, ntZ, netV, hp1, hp2, hp3, ht, sitV, ints_len]
        all_goals trace_state
      · have hkl : 0 = n.sites.length := by first | omega | simp [h]
        simp (disch := omega) [go_sem]
        refine awz_loop mixed (nt2F n) (fun k => k ≤ n.subs.length) (fun k => n.subs.length - k) 0 (by omega) ?_ ?_
        · refine Le.mk [(0, some 0), (16, some 16), (144, some 144)] [0, 16, 144] ⟨rfl, rfl, rfl⟩ ?_ ?_ ?_ <;> simp [go_sem, nt2F, ntS, ntV, ntZ, netV, hp1, hp2, hp3, h]
          all_goals first | omega | exact argsLe_self hp1 | exact vsLe_self _ hp1 | trace_state
        · intro k hk
          cases k with
          | zero =>
            simp (disch := omega) [go_sem, nt2F, ntS, ntV, ntZ, netV]
            refine br_of (fun h => ?_) (fun h => ?_) <;> simp at h
            · have h' : 0 < n.subs.length := by omega
              have hg : nth (n.subs.map subV) 0 = subV n.subs[0] := nth_map h'
              have ht : List.take 1 (n.subs.map subV) = [subV n.subs[0]] := by rw [List.take_succ_eq_append_getElem (by simpa using h')]; simp
              have hsl := g2 n.subs[0] (List.getElem_mem h')
              simp (disch := omega) [go_sem, h', hg, subV, ints_len]
              refine ⟨by omega, .inl (by kernel_rfl), ?_⟩
              refine round_of 1 (by omega) (by omega) (Le.mk [(0, some 0), (16, some 16), (144, some 144), (512, some 2400)] [0, 16, 144, 2400] ⟨rfl, rfl, rfl⟩ ?_ ?_ ?_) <;> simp [go_sem, nt2F, ntS, ntV, ntZ, netV, hp1, hp2, hp3, ht, subV, ints_len]
              all_goals exact argsLe_self (ints_pure _)
            · have hkl : 0 = n.subs.length := by first | omega | simp [h]
              simp (disch := omega) [go_sem]
              refine awz_loop mixed (nt3F n) (fun k => k ≤ n.weds.length) (fun k => n.weds.length - k) 0 (by omega) ?_ ?_
              · refine Le.mk [(0, some 0), (16, some 16), (144, some 144)] [0, 16, 144] ⟨rfl, rfl, rfl⟩ ?_ ?_ ?_ <;> simp [go_sem, nt3F, ntS, ntV, ntZ, netV, hp1, hp2, hp3, h]
                all_goals first | omega | exact argsLe_self hp2 | exact vsLe_self _ hp2 | trace_state
              · intro k hk
                cases k with
                | zero =>
                  simp (disch := omega) [go_sem, nt3F, ntS, ntV, ntZ, netV]
                  refine br_of (fun h => ?_) (fun h => ?_) <;> simp at h
                  · have h' : 0 < n.weds.length := by omega
                    have hg : nth (n.weds.map wedV) 0 = wedV n.weds[0] := nth_map h'
                    have ht : List.take 1 (n.weds.map wedV) = [wedV n.weds[0]] := by rw [List.take_succ_eq_append_getElem (by simpa using h')]; simp
                    have hsl := g3 n.weds[0] (List.getElem_mem h')
                    simp (disch := omega) [go_sem, h', hg, wedV, ints_len]
                    refine ⟨by omega, ?_⟩
                    refine round_of 1 (by omega) (by omega) (Le.mk [(0, some 0), (16, some 16), (144, some 144), (512, some 3472)] [0, 16, 144, 3472] ⟨rfl, rfl, rfl⟩ ?_ ?_ ?_) <;> simp [go_sem, nt3F, ntS, ntV, ntZ, netV, hp1, hp2, hp3, ht, wedV, ints_len]
                    all_goals exact argsLe_self (ints_pure _)
                  · have hkl : 0 = n.weds.length := by first | omega | simp [h]
                    simp (disch := omega) [go_sem]
                    exact List.eq_nil_of_length_eq_zero hkl.symm
                | succ k =>
                  simp (disch := omega) [go_sem, nt3F, ntS, ntV, ntZ, netV]
                  refine br_of (fun h => ?_) (fun h => ?_) <;> simp at h
                  · have h' : k + 1 < n.weds.length := by omega
                    have hg : nth (n.weds.map wedV) (k + 1) = wedV n.weds[k + 1] := nth_map h'
                    have ht : List.take (k + 1 + 1) (n.weds.map wedV) = List.take (k + 1) (n.weds.map wedV) ++ [wedV n.weds[k + 1]] := by rw [List.take_succ_eq_append_getElem (by simpa using h')]; simp
                    have hpt' : pures (List.take (k + 1) (n.weds.map wedV)) := by rw [← List.map_take]; exact weds_pure _
                    have hsl := g3 n.weds[k + 1] (List.getElem_mem h')
                    simp (disch := omega) [go_sem, h', hg, wedV, ints_len]
                    refine ⟨by omega, by omega, by omega, ?_⟩
                    refine round_of (k + 1 + 1) (by omega) (by omega) (Le.mk [(0, some 0), (16, some 16), (144, some 144), (512, some 512)] [0, 16, 144, 512] ⟨rfl, rfl, rfl⟩ ?_ ?_ ?_) <;> simp [go_sem, nt3F, ntS, ntV, ntZ, netV, hp1, hp2, hp3, ht]
                    all_goals (refine vsLe_app (vsLe_self _ hpt') ?_; simp [go_sem, wedV, ints_len]; exact argsLe_self (ints_pure _))
                  · have hkl : k + 1 = n.weds.length := by first | omega | simp [h]
                    have htk : List.take (k + 1) (n.weds.map wedV) = n.weds.map wedV := List.take_of_length_le (by simp; omega)
                    simp (disch := omega) [go_sem]
                    rw [htk]
                    exact argsLe_self hp3
          | succ k =>
            simp (disch := omega) [go_sem, nt2F, ntS, ntV, ntZ, netV]
            refine br_of (fun h => ?_) (fun h => ?_) <;> simp at h
            · have h' : k + 1 < n.subs.length := by omega
              have hg : nth (n.subs.map subV) (k + 1) = subV n.subs[k + 1] := nth_map h'
              have ht : List.take (k + 1 + 1) (n.subs.map subV) = List.take (k + 1) (n.subs.map subV) ++ [subV n.subs[k + 1]] := by rw [List.take_succ_eq_append_getElem (by simpa using h')]; simp
              have hpt' : pures (List.take (k + 1) (n.subs.map subV)) := by rw [← List.map_take]; exact subs_pure _
              have hsl := g2 n.subs[k + 1] (List.getElem_mem h')
              simp (disch := omega) [go_sem, h', hg, subV, ints_len]
              refine ⟨by omega, by omega, by omega, by omega, .inl (by kernel_rfl), ?_⟩
              refine round_of (k + 1 + 1) (by omega) (by omega) (Le.mk [(0, some 0), (16, some 16), (144, some 144), (512, some 512)] [0, 16, 144, 512] ⟨rfl, rfl, rfl⟩ ?_ ?_ ?_) <;> simp [go_sem, nt2F, ntS, ntV, ntZ, netV, hp1, hp2, hp3, ht]
              all_goals (refine vsLe_app (vsLe_self _ hpt') ?_; simp [go_sem, subV, ints_len]; exact argsLe_self (ints_pure _))
            · have hkl : k + 1 = n.subs.length := by first | omega | simp [h]
              have htk : List.take (k + 1) (n.subs.map subV) = n.subs.map subV := List.take_of_length_le (by simp; omega)
              simp (disch := omega) [go_sem]
              refine awz_loop mixed (nt3F n) (fun k => k ≤ n.weds.length) (fun k => n.weds.length - k) 0 (by omega) ?_ ?_
              · refine Le.mk [(0, some 0), (16, some 16), (144, some 144)] [0, 16, 144] ⟨rfl, rfl, rfl⟩ ?_ ?_ ?_ <;> simp [go_sem, nt3F, ntS, ntV, ntZ, netV, hp1, hp2, hp3, htk]
                all_goals first | omega | exact argsLe_self hp2 | exact vsLe_self _ hp2 | trace_state
              · intro k hk
                cases k with
                | zero =>
                  simp (disch := omega) [go_sem, nt3F, ntS, ntV, ntZ, netV]
                  refine br_of (fun h => ?_) (fun h => ?_) <;> simp at h
                  · have h' : 0 < n.weds.length := by omega
                    have hg : nth (n.weds.map wedV) 0 = wedV n.weds[0] := nth_map h'
                    have ht : List.take 1 (n.weds.map wedV) = [wedV n.weds[0]] := by rw [List.take_succ_eq_append_getElem (by simpa using h')]; simp
                    have hsl := g3 n.weds[0] (List.getElem_mem h')
                    simp (disch := omega) [go_sem, h', hg, wedV, ints_len]
                    refine ⟨by omega, ?_⟩
                    refine round_of 1 (by omega) (by omega) (Le.mk [(0, some 0), (16, some 16), (144, some 144), (512, some 3472)] [0, 16, 144, 3472] ⟨rfl, rfl, rfl⟩ ?_ ?_ ?_) <;> simp [go_sem, nt3F, ntS, ntV, ntZ, netV, hp1, hp2, hp3, ht, wedV, ints_len]
                    all_goals exact argsLe_self (ints_pure _)
                  · have hkl : 0 = n.weds.length := by first | omega | simp [h]
                    simp (disch := omega) [go_sem]
                    exact List.eq_nil_of_length_eq_zero hkl.symm
                | succ k =>
                  simp (disch := omega) [go_sem, nt3F, ntS, ntV, ntZ, netV]
                  refine br_of (fun h => ?_) (fun h => ?_) <;> simp at h
                  · have h' : k + 1 < n.weds.length := by omega
                    have hg : nth (n.weds.map wedV) (k + 1) = wedV n.weds[k + 1] := nth_map h'
                    have ht : List.take (k + 1 + 1) (n.weds.map wedV) = List.take (k + 1) (n.weds.map wedV) ++ [wedV n.weds[k + 1]] := by rw [List.take_succ_eq_append_getElem (by simpa using h')]; simp
                    have hpt' : pures (List.take (k + 1) (n.weds.map wedV)) := by rw [← List.map_take]; exact weds_pure _
                    have hsl := g3 n.weds[k + 1] (List.getElem_mem h')
                    simp (disch := omega) [go_sem, h', hg, wedV, ints_len]
                    refine ⟨by omega, by omega, by omega, ?_⟩
                    refine round_of (k + 1 + 1) (by omega) (by omega) (Le.mk [(0, some 0), (16, some 16), (144, some 144), (512, some 512)] [0, 16, 144, 512] ⟨rfl, rfl, rfl⟩ ?_ ?_ ?_) <;> simp [go_sem, nt3F, ntS, ntV, ntZ, netV, hp1, hp2, hp3, ht]
                    all_goals (refine vsLe_app (vsLe_self _ hpt') ?_; simp [go_sem, wedV, ints_len]; exact argsLe_self (ints_pure _))
                  · have hkl : k + 1 = n.weds.length := by first | omega | simp [h]
                    have htk : List.take (k + 1) (n.weds.map wedV) = n.weds.map wedV := List.take_of_length_le (by simp; omega)
                    simp (disch := omega) [go_sem]
                    rw [htk]
                    exact argsLe_self hp3
    | succ k =>
      simp (disch := omega) [go_sem, nt1F, ntS, ntV, ntZ, netV]
      refine br_of (fun h => ?_) (fun h => ?_) <;> simp at h
      · have h' : k + 1 < n.sites.length := by omega
        have hg : nth (n.sites.map sitV) (k + 1) = sitV n.sites[k + 1] := nth_map h'
        have ht : List.take (k + 1 + 1) (n.sites.map sitV) = List.take (k + 1) (n.sites.map sitV) ++ [sitV n.sites[k + 1]] := by rw [List.take_succ_eq_append_getElem (by simpa using h')]; simp
        have hpt' : pures (List.take (k + 1) (n.sites.map sitV)) := by rw [← List.map_take]; exact sits_pure _
        have hpt : partV Tryz.prog 87 (sitV n.sites[k + 1]) 0 = some (sitV n.sites[k + 1]) := rfl
        simp (disch := omega) [go_sem, h', hg, hpt]
        refine ⟨by omega, ?_⟩
        refine callK_data (twin_spec n.sites[k + 1] (g1 _ (List.getElem_mem h'))) [] (by simp [go_sem, sit_pure]) (.inl rfl) (by simp [sit_pure]) (fun _ => ?_)
        simp (disch := omega) [go_sem, h', hg, hpt, sitV]
        refine ⟨by omega, .inl (by kernel_rfl), ?_⟩
        refine round_of (k + 1 + 1) (by omega) (by omega) (Le.mk [(0, some 0), (16, some 16), (144, some 144), (512, some 512)] [0, 16, 144, 512] ⟨rfl, rfl, rfl⟩ ?_ ?_ ?_) <;> simp [go_sem, nt1F, ntS, ntV, ntZ, netV, hp1, hp2, hp3, ht]
        all_goals (refine vsLe_app (vsLe_self _ hpt') ?_; simp [go_sem, sitV, ints_len])
      · have hkl : k + 1 = n.sites.length := by first | omega | simp [h]
        have htk : List.take (k + 1) (n.sites.map sitV) = n.sites.map sitV := List.take_of_length_le (by simp; omega)
        simp (disch := omega) [go_sem]
        refine awz_loop mixed (nt2F n) (fun k => k ≤ n.subs.length) (fun k => n.subs.length - k) 0 (by omega) ?_ ?_
        · refine Le.mk [(0, some 0), (16, some 16), (144, some 144)] [0, 16, 144] ⟨rfl, rfl, rfl⟩ ?_ ?_ ?_ <;> simp [go_sem, nt2F, ntS, ntV, ntZ, netV, hp1, hp2, hp3, htk]
          all_goals first | omega | exact argsLe_self hp1 | exact vsLe_self _ hp1 | trace_state
        · intro k hk
          cases k with
          | zero =>
            simp (disch := omega) [go_sem, nt2F, ntS, ntV, ntZ, netV]
            refine br_of (fun h => ?_) (fun h => ?_) <;> simp at h
            · have h' : 0 < n.subs.length := by omega
              have hg : nth (n.subs.map subV) 0 = subV n.subs[0] := nth_map h'
              have ht : List.take 1 (n.subs.map subV) = [subV n.subs[0]] := by rw [List.take_succ_eq_append_getElem (by simpa using h')]; simp
              have hsl := g2 n.subs[0] (List.getElem_mem h')
              simp (disch := omega) [go_sem, h', hg, subV, ints_len]
              refine ⟨by omega, .inl (by kernel_rfl), ?_⟩
              refine round_of 1 (by omega) (by omega) (Le.mk [(0, some 0), (16, some 16), (144, some 144), (512, some 2400)] [0, 16, 144, 2400] ⟨rfl, rfl, rfl⟩ ?_ ?_ ?_) <;> simp [go_sem, nt2F, ntS, ntV, ntZ, netV, hp1, hp2, hp3, ht, subV, ints_len]
              all_goals exact argsLe_self (ints_pure _)
            · have hkl : 0 = n.subs.length := by first | omega | simp [h]
              simp (disch := omega) [go_sem]
              refine awz_loop mixed (nt3F n) (fun k => k ≤ n.weds.length) (fun k => n.weds.length - k) 0 (by omega) ?_ ?_
              · refine Le.mk [(0, some 0), (16, some 16), (144, some 144)] [0, 16, 144] ⟨rfl, rfl, rfl⟩ ?_ ?_ ?_ <;> simp [go_sem, nt3F, ntS, ntV, ntZ, netV, hp1, hp2, hp3, h]
                all_goals first | omega | exact argsLe_self hp2 | exact vsLe_self _ hp2 | trace_state
              · intro k hk
                cases k with
                | zero =>
                  simp (disch := omega) [go_sem, nt3F, ntS, ntV, ntZ, netV]
                  refine br_of (fun h => ?_) (fun h => ?_) <;> simp at h
                  · have h' : 0 < n.weds.length := by omega
                    have hg : nth (n.weds.map wedV) 0 = wedV n.weds[0] := nth_map h'
                    have ht : List.take 1 (n.weds.map wedV) = [wedV n.weds[0]] := by rw [List.take_succ_eq_append_getElem (by simpa using h')]; simp
                    have hsl := g3 n.weds[0] (List.getElem_mem h')
                    simp (disch := omega) [go_sem, h', hg, wedV, ints_len]
                    refine ⟨by omega, ?_⟩
                    refine round_of 1 (by omega) (by omega) (Le.mk [(0, some 0), (16, some 16), (144, some 144), (512, some 3472)] [0, 16, 144, 3472] ⟨rfl, rfl, rfl⟩ ?_ ?_ ?_) <;> simp [go_sem, nt3F, ntS, ntV, ntZ, netV, hp1, hp2, hp3, ht, wedV, ints_len]
                    all_goals exact argsLe_self (ints_pure _)
                  · have hkl : 0 = n.weds.length := by first | omega | simp [h]
                    simp (disch := omega) [go_sem]
                    exact List.eq_nil_of_length_eq_zero hkl.symm
                | succ k =>
                  simp (disch := omega) [go_sem, nt3F, ntS, ntV, ntZ, netV]
                  refine br_of (fun h => ?_) (fun h => ?_) <;> simp at h
                  · have h' : k + 1 < n.weds.length := by omega
                    have hg : nth (n.weds.map wedV) (k + 1) = wedV n.weds[k + 1] := nth_map h'
                    have ht : List.take (k + 1 + 1) (n.weds.map wedV) = List.take (k + 1) (n.weds.map wedV) ++ [wedV n.weds[k + 1]] := by rw [List.take_succ_eq_append_getElem (by simpa using h')]; simp
                    have hpt' : pures (List.take (k + 1) (n.weds.map wedV)) := by rw [← List.map_take]; exact weds_pure _
                    have hsl := g3 n.weds[k + 1] (List.getElem_mem h')
                    simp (disch := omega) [go_sem, h', hg, wedV, ints_len]
                    refine ⟨by omega, by omega, by omega, ?_⟩
                    refine round_of (k + 1 + 1) (by omega) (by omega) (Le.mk [(0, some 0), (16, some 16), (144, some 144), (512, some 512)] [0, 16, 144, 512] ⟨rfl, rfl, rfl⟩ ?_ ?_ ?_) <;> simp [go_sem, nt3F, ntS, ntV, ntZ, netV, hp1, hp2, hp3, ht]
                    all_goals (refine vsLe_app (vsLe_self _ hpt') ?_; simp [go_sem, wedV, ints_len]; exact argsLe_self (ints_pure _))
                  · have hkl : k + 1 = n.weds.length := by first | omega | simp [h]
                    have htk : List.take (k + 1) (n.weds.map wedV) = n.weds.map wedV := List.take_of_length_le (by simp; omega)
                    simp (disch := omega) [go_sem]
                    rw [htk]
                    exact argsLe_self hp3
          | succ k =>
            simp (disch := omega) [go_sem, nt2F, ntS, ntV, ntZ, netV]
            refine br_of (fun h => ?_) (fun h => ?_) <;> simp at h
            · have h' : k + 1 < n.subs.length := by omega
              have hg : nth (n.subs.map subV) (k + 1) = subV n.subs[k + 1] := nth_map h'
              have ht : List.take (k + 1 + 1) (n.subs.map subV) = List.take (k + 1) (n.subs.map subV) ++ [subV n.subs[k + 1]] := by rw [List.take_succ_eq_append_getElem (by simpa using h')]; simp
              have hpt' : pures (List.take (k + 1) (n.subs.map subV)) := by rw [← List.map_take]; exact subs_pure _
              have hsl := g2 n.subs[k + 1] (List.getElem_mem h')
              simp (disch := omega) [go_sem, h', hg, subV, ints_len]
              refine ⟨by omega, by omega, by omega, by omega, .inl (by kernel_rfl), ?_⟩
              refine round_of (k + 1 + 1) (by omega) (by omega) (Le.mk [(0, some 0), (16, some 16), (144, some 144), (512, some 512)] [0, 16, 144, 512] ⟨rfl, rfl, rfl⟩ ?_ ?_ ?_) <;> simp [go_sem, nt2F, ntS, ntV, ntZ, netV, hp1, hp2, hp3, ht]
              all_goals (refine vsLe_app (vsLe_self _ hpt') ?_; simp [go_sem, subV, ints_len]; exact argsLe_self (ints_pure _))
            · have hkl : k + 1 = n.subs.length := by first | omega | simp [h]
              have htk : List.take (k + 1) (n.subs.map subV) = n.subs.map subV := List.take_of_length_le (by simp; omega)
              simp (disch := omega) [go_sem]
              refine awz_loop mixed (nt3F n) (fun k => k ≤ n.weds.length) (fun k => n.weds.length - k) 0 (by omega) ?_ ?_
              · refine Le.mk [(0, some 0), (16, some 16), (144, some 144)] [0, 16, 144] ⟨rfl, rfl, rfl⟩ ?_ ?_ ?_ <;> simp [go_sem, nt3F, ntS, ntV, ntZ, netV, hp1, hp2, hp3, htk]
                all_goals first | omega | exact argsLe_self hp2 | exact vsLe_self _ hp2 | trace_state
              · intro k hk
                cases k with
                | zero =>
                  simp (disch := omega) [go_sem, nt3F, ntS, ntV, ntZ, netV]
                  refine br_of (fun h => ?_) (fun h => ?_) <;> simp at h
                  · have h' : 0 < n.weds.length := by omega
                    have hg : nth (n.weds.map wedV) 0 = wedV n.weds[0] := nth_map h'
                    have ht : List.take 1 (n.weds.map wedV) = [wedV n.weds[0]] := by rw [List.take_succ_eq_append_getElem (by simpa using h')]; simp
                    have hsl := g3 n.weds[0] (List.getElem_mem h')
                    simp (disch := omega) [go_sem, h', hg, wedV, ints_len]
                    refine ⟨by omega, ?_⟩
                    refine round_of 1 (by omega) (by omega) (Le.mk [(0, some 0), (16, some 16), (144, some 144), (512, some 3472)] [0, 16, 144, 3472] ⟨rfl, rfl, rfl⟩ ?_ ?_ ?_) <;> simp [go_sem, nt3F, ntS, ntV, ntZ, netV, hp1, hp2, hp3, ht, wedV, ints_len]
                    all_goals exact argsLe_self (ints_pure _)
                  · have hkl : 0 = n.weds.length := by first | omega | simp [h]
                    simp (disch := omega) [go_sem]
                    exact List.eq_nil_of_length_eq_zero hkl.symm
                | succ k =>
                  simp (disch := omega) [go_sem, nt3F, ntS, ntV, ntZ, netV]
                  refine br_of (fun h => ?_) (fun h => ?_) <;> simp at h
                  · have h' : k + 1 < n.weds.length := by omega
                    have hg : nth (n.weds.map wedV) (k + 1) = wedV n.weds[k + 1] := nth_map h'
                    have ht : List.take (k + 1 + 1) (n.weds.map wedV) = List.take (k + 1) (n.weds.map wedV) ++ [wedV n.weds[k + 1]] := by rw [List.take_succ_eq_append_getElem (by simpa using h')]; simp
                    have hpt' : pures (List.take (k + 1) (n.weds.map wedV)) := by rw [← List.map_take]; exact weds_pure _
                    have hsl := g3 n.weds[k + 1] (List.getElem_mem h')
                    simp (disch := omega) [go_sem, h', hg, wedV, ints_len]
                    refine ⟨by omega, by omega, by omega, ?_⟩
                    refine round_of (k + 1 + 1) (by omega) (by omega) (Le.mk [(0, some 0), (16, some 16), (144, some 144), (512, some 512)] [0, 16, 144, 512] ⟨rfl, rfl, rfl⟩ ?_ ?_ ?_) <;> simp [go_sem, nt3F, ntS, ntV, ntZ, netV, hp1, hp2, hp3, ht]
                    all_goals (refine vsLe_app (vsLe_self _ hpt') ?_; simp [go_sem, wedV, ints_len]; exact argsLe_self (ints_pure _))
                  · have hkl : k + 1 = n.weds.length := by first | omega | simp [h]
                    have htk : List.take (k + 1) (n.weds.map wedV) = n.weds.map wedV := List.take_of_length_le (by simp; omega)
                    simp (disch := omega) [go_sem]
                    rw [htk]
                    exact argsLe_self hp3
end Go.Proofs.YtdeionjkcmpnpaaGreatDoor
