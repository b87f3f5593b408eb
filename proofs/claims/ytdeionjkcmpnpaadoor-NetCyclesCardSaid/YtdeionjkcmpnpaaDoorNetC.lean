
/- NetCycles: the law. -/
import Derived.Test.YtdeionjkcmpnpaaDoorNetL
set_option linter.unusedSimpArgs false
set_option linter.unusedVariables false
namespace Go.Proofs.YtdeionjkcmpnpaaDoor
open Go.AM Go.RowKit
set_option maxRecDepth 100000

set_option maxHeartbeats 4000000 in
theorem ncyl_spec (n : NetN) : FnD Tryd.prog 7 [netV n] (.bool true) tabG := by
  have hnv : netV n = .agg [.sl 12 (n.sites.map sitV), .sl 2 (n.subs.map subV), .sl 4 (n.weds.map wedV), .int .i64 n.low, .int .i64 n.high, .int .i64 n.step] := rfl
  have qg := greatN_spec n
  have c1 := fun h => ncheck_good (n := n) h
  have c2 := fun h => ncheck_nogood (n := n) h
  have qc := cycles_spec n
  rw [hnv] at qg c1 c2 qc ⊢
  refine fnD_of mixed Tryd.func7 rfl rfl (by simp [Tryd.ntmps7]) fun hwf E => ?_
  simp (disch := omega) [go_sem] at hwf
  simp (disch := omega) [Tryd.ntmps7, go_sem]
  refine callK_data alive6_spec [] (by simp [go_sem]) (.inl rfl) (by simp [go_sem]) (fun _ => ?_) (by simp [tabG, go_sem])
  simp (disch := omega) [go_sem]
  refine callK_bool qg [] (by simp [go_sem]) (fun h1 => ?_) (fun h1 => ?_) <;> try simp [inN] at h1
  · simp (disch := omega) [go_sem]
  · simp (disch := omega) [go_sem]
    by_cases hk : NetOk n
    · refine callK_data (c1 hk) [] (by simp [go_sem]) (.inl rfl) (by simp [go_sem]) (fun _ => ?_) (by simp [tabG, go_sem])
      simp (disch := omega) [go_sem]
      rw [netN_ok hk, allCyc_ok hk] at qc
      obtain ⟨tq1, tq2⟩ := hk.1.q
      have hT := hk.1
      have hlen := cycN_len n (cycK n + 1)
      have hat : ∀ i, i < cycK n + 1 → nth (ints (cycN n (cycK n + 1))) i = .int .i64 (cycAt n i) := fun i hi => by
        rw [nth_ints (by rw [hlen]; exact hi)]; simp [cycN]
      have h0 := hat 0 (by omega)
      have hL := hat (cycK n) (by omega)
      have e0 : cycAt n 0 = n.low := by simp [cycAt]
      have eL : cycAt n (cycK n) = n.high := by unfold cycAt; omega
      rw [e0] at h0
      rw [eL] at hL
      have hso := hk.2.1
      have hle : ∀ i, i < cycK n + 1 → n.low ≤ cycAt n i ∧ cycAt n i ≤ n.high := fun i hi => by
        refine ⟨?_, (hT.at).2 (by omega)⟩
        unfold cycAt
        have := Int.mul_nonneg (show 0 ≤ n.step by have := hT.2.2.1.1; omega) (show (0 : Int) ≤ (i : Int) by omega)
        omega
      have hst : ∀ i, cycAt n (i + 1) = cycAt n i + n.step := fun i => by
        unfold cycAt; push_cast; rw [Int.mul_add]; omega
      have t1 := hT.1; have t2 := hT.2.1; have t3 := hT.2.2.1
      have hci : ∀ i : Nat, i < cycK n + 1 → i < (cycN n (cycK n + 1)).length := fun i hi => by rw [hlen]; exact hi
      generalize cycN n (cycK n + 1) = l at *
      generalize cycK n = K at *
      have hk0 := hci 0 (by omega)
      have hkK := hci K (by omega)
      have hl1 : ((l.length : Int) - 1).toNat = K := by omega
      refine callK_data qc [] (by simp [go_sem, hlen]) (.inl rfl) (by simp [go_sem, hlen]) (fun _ => ?_) (by simp [tabG, go_sem])
      simp (disch := omega) [go_sem, hlen]
      simp (disch := omega) [go_sem, hlen, h0, hL, hk0, hkK]
      refine ⟨fun _ _ => by omega, .inl (by kernel_rfl), ?_⟩
      refine br_of (fun h2 => ?_) (fun h2 => ?_) <;> simp at h2
      · omega
      · simp (disch := omega) [go_sem, hlen]
        refine awz_loop mixed (fun k : Nat => ⟨[(6, .int .i64 k), (4, .sl 1 (ints l)), (3, .bool true), (1, .ptr 0 1 0 0)], [(0, ⟨.box, 77, 6, [netV n]⟩)], 1024, [], 119, 0, tabG⟩) (fun k => k ≤ K + 1) (fun k => K + 1 - k) 0 ?_ ?_ ?_
        · omega
        · refine Le.mk [(0, some 0)] [0] ⟨rfl, rfl, rfl⟩ ?_ ?_ ?_ <;> simp [go_sem, hlen, netV]
        · intro k hkk
          simp (disch := omega) [go_sem, hlen, netV]
          refine br_of (fun h3 => ?_) (fun h3 => ?_) <;> simp at h3
          · have hkl := hci k (by omega)
            have nk := hat k (by omega)
            have hb := hle k (by omega)
            have inner : ∀ (nx0 : Nat), True := fun _ => trivial
            cases k with
            | zero =>
              simp (disch := omega) [go_sem, hlen, nk, hkl]
              refine ⟨.inl (by kernel_rfl), ?_⟩
              refine awz_loop mixed (fun m : Nat => ⟨[(7, .int .i64 m), (6, .int .i64 (0 : Nat)), (4, .sl 1 (ints l)), (3, .bool true), (1, .ptr 0 1 0 0)], [(0, ⟨.box, 77, 6, [netV n]⟩)], 2048, [], 119, 0, tabG⟩) (fun m => m ≤ n.sites.length) (fun m => n.sites.length - m) 0 ?_ ?_ ?_
              · omega
              · refine Le.mk [(0, some 0)] [0] ⟨rfl, rfl, rfl⟩ ?_ ?_ ?_ <;> simp [go_sem, hlen, netV]
              · intro m hm
                simp (disch := omega) [go_sem, hlen, netV]
                refine br_of (fun h5 => ?_) (fun h5 => ?_) <;> simp at h5
                · have hg : nth (n.sites.map sitV) m = sitV n.sites[m] := nth_map h5
                  have hsm := hso.2.2 _ (List.getElem_mem h5)
                  have qs : FnD Tryd.prog 44 [sitV n.sites[m]] (.int .i64 0) tabG := by have h := check_spec n.sites[m]; rw [checkN_ok hsm.1] at h; exact h
                  obtain ⟨g1, g2, g3⟩ := hsm
                  have hsv : sitV n.sites[m] = .agg [.int .i64 n.sites[m].id, .sl 3 (n.sites[m].groups.map grpV), .sl 1 (sets n.sites[m].apart), .sl 1 (rows n.sites[m].between), .sl 5 (n.sites[m].phases.map phaV), .sl 4 (n.sites[m].eyes.map eyeV), .int .i64 n.sites[m].watch, .int .i64 n.sites[m].feed, .int .i64 n.sites[m].heal, .int .i64 n.sites[m].low, .int .i64 n.sites[m].high, .sl 3 (n.sites[m].plans.map plnV)] := rfl
                  rw [hsv] at hg qs
                  clear hsv
                  generalize n.sites[m] = x at *
                  have d1 : decide (cycAt n (0) < x.low) = false := by rw [decide_eq_false_iff_not]; omega
                  have d2 : decide (x.high < cycAt n (0)) = false := by rw [decide_eq_false_iff_not]; omega
                  simp (disch := omega) [go_sem, hlen, h5, hg, nk, hkl, d1, d2]
                  refine callK_data qs [] (by simp [go_sem, hlen]) (.inl rfl) (by simp [go_sem, hlen]) (fun _ => ?_) (by simp [tabG, go_sem])
                  simp (disch := omega) [go_sem, hlen]
                  refine ⟨.inl (by kernel_rfl), ?_⟩
                  refine round_of (m + 1) (by omega) (by omega) (Le.mk [(0, some 0)] [0] ⟨rfl, rfl, rfl⟩ ?_ ?_ ?_) <;> simp [go_sem, hlen, netV]
                · simp (disch := omega) [go_sem, hlen]
                  refine round_of (0 + 1) (by omega) (by omega) (Le.mk [(0, some 0)] [0] ⟨rfl, rfl, rfl⟩ ?_ ?_ ?_) <;> simp [go_sem, hlen, netV]
            | succ j =>
              have hjl := hci j (by omega)
              have nj := hat j (by omega)
              have hsj := hst j
              have hbj := hle j (by omega)
              simp (disch := omega) [go_sem, hlen, nk, hkl, nj, hjl]
              refine ⟨⟨by omega, by omega⟩, by omega, by omega, .inl (by kernel_rfl), ?_⟩
              refine br_of (fun h4 => ?_) (fun h4 => ?_) <;> simp at h4
              · omega
              · simp (disch := omega) [go_sem, hlen]
                refine awz_loop mixed (fun m : Nat => ⟨[(7, .int .i64 m), (6, .int .i64 (j + 1 : Nat)), (4, .sl 1 (ints l)), (3, .bool true), (1, .ptr 0 1 0 0)], [(0, ⟨.box, 77, 6, [netV n]⟩)], 2048, [], 119, 0, tabG⟩) (fun m => m ≤ n.sites.length) (fun m => n.sites.length - m) 0 ?_ ?_ ?_
                · omega
                · refine Le.mk [(0, some 0)] [0] ⟨rfl, rfl, rfl⟩ ?_ ?_ ?_ <;> simp [go_sem, hlen, netV]
                · intro m hm
                  simp (disch := omega) [go_sem, hlen, netV]
                  refine br_of (fun h5 => ?_) (fun h5 => ?_) <;> simp at h5
                  · have hg : nth (n.sites.map sitV) m = sitV n.sites[m] := nth_map h5
                    have hsm := hso.2.2 _ (List.getElem_mem h5)
                    have qs : FnD Tryd.prog 44 [sitV n.sites[m]] (.int .i64 0) tabG := by have h := check_spec n.sites[m]; rw [checkN_ok hsm.1] at h; exact h
                    obtain ⟨g1, g2, g3⟩ := hsm
                    have hsv : sitV n.sites[m] = .agg [.int .i64 n.sites[m].id, .sl 3 (n.sites[m].groups.map grpV), .sl 1 (sets n.sites[m].apart), .sl 1 (rows n.sites[m].between), .sl 5 (n.sites[m].phases.map phaV), .sl 4 (n.sites[m].eyes.map eyeV), .int .i64 n.sites[m].watch, .int .i64 n.sites[m].feed, .int .i64 n.sites[m].heal, .int .i64 n.sites[m].low, .int .i64 n.sites[m].high, .sl 3 (n.sites[m].plans.map plnV)] := rfl
                    rw [hsv] at hg qs
                    clear hsv
                    generalize n.sites[m] = x at *
                    have d1 : decide (cycAt n (j + 1) < x.low) = false := by rw [decide_eq_false_iff_not]; omega
                    have d2 : decide (x.high < cycAt n (j + 1)) = false := by rw [decide_eq_false_iff_not]; omega
                    simp (disch := omega) [go_sem, hlen, h5, hg, nk, hkl, d1, d2]
                    refine ⟨⟨by omega, by omega⟩, by omega, ⟨by omega, by omega⟩, by omega, ?_⟩
                    refine callK_data qs [] (by simp [go_sem, hlen]) (.inl rfl) (by simp [go_sem, hlen]) (fun _ => ?_) (by simp [tabG, go_sem])
                    simp (disch := omega) [go_sem, hlen]
                    refine ⟨.inl (by kernel_rfl), ?_⟩
                    refine round_of (m + 1) (by omega) (by omega) (Le.mk [(0, some 0)] [0] ⟨rfl, rfl, rfl⟩ ?_ ?_ ?_) <;> simp [go_sem, hlen, netV]
                  · simp (disch := omega) [go_sem, hlen]
                    refine round_of (j + 1 + 1) (by omega) (by omega) (Le.mk [(0, some 0)] [0] ⟨rfl, rfl, rfl⟩ ?_ ?_ ?_) <;> simp [go_sem, hlen, netV]
          · have : k = K + 1 := by omega
            simp (disch := omega) [go_sem, hlen]
    · refine callK_data ((c2 hk)) [] (by simp [go_sem]) (.inl rfl) (by simp [go_sem]) (fun _ => ?_) (by simp [tabG, go_sem])
      simp (disch := omega) [go_sem]
end Go.Proofs.YtdeionjkcmpnpaaDoor
