
/- The reader of the layer site: plans. -/
import Derived.Test.YtdeionjkcmpnpaaGreatDoorRd
set_option linter.unusedSimpArgs false
set_option linter.unusedVariables false
namespace Go.Proofs.YtdeionjkcmpnpaaGreatDoor
open Go.AM Go.RowKit
set_option maxRecDepth 100000

theorem plans_len (l : List Pln) : (l.map plnV).length = l.length := List.length_map ..
set_option maxHeartbeats 2000000 in
theorem plans0_spec (s : RdS) (rest : List V) (hr : pures rest) :
    FnR Tryz.prog 160 [rdO s rest] [.ptr 0 1 0 0] [rdO (plansR s).2 rest] (.sl 3 ((plansR s).1.map plnV)) := by
  refine fnR_of mixed Tryz.func160 rfl rfl (by simp [Tryz.ntmps160]) (by simp) fun hwf E => ?_
  have hp := bts_pure s.b
  have q := one0_spec s 8 rest hr (by omega)
  have hm := oneF_in s (most := 8) (by omega)
  have hpl : plansR s = repF planR (oneF s 8).1.toNat (oneF s 8).2 := rfl
  rw [hpl]
  generalize oneF s 8 = o at *
  obtain ⟨m, s1⟩ := o
  simp only at hm q ⊢
  obtain ⟨n, rfl⟩ := Int.eq_ofNat_of_zero_le hm.1
  have hps1 := bts_pure s1.b
  simp (disch := omega) [Tryz.ntmps160, go_sem, rdO]
  refine callK_ref q [(0, some 0)] [0] [] [] ?_ ?_ ?_ (.inl ⟨rfl, .inl rfl⟩) (fun _ => ?_)
  · simp [go_sem]
  · simp [go_sem, rdO, hp, hr]
  · simp [go_sem, rdO]
  simp (disch := omega) [go_sem, rdO]
  refine awz_loop mixed (fun k : Nat => ⟨[(8, .int .i64 k), (7, .int .i64 n), (2, .obj 1424 k), (0, .ptr 0 1 0 0)], [(1424, ⟨.arr, 89, 3, (repF planR k s1).1.map plnV⟩), (0, rdO (repF planR k s1).2 rest)], 2048, [], 34, 1, []⟩)
    (fun k => k ≤ n) (fun k => n - k) 0 (by omega) ?_ ?_
  · refine Le.mk [(0, some 0), (1424, none)] [0] ⟨rfl, rfl, rfl⟩ ?_ ?_ ?_ <;> simp [go_sem, rdO, repF, hps1, hr]
  · intro k hk
    have hlk : (repF planR k s1).1.length = k := repF_len _ _ _
    have hs := repF_snoc planR k s1
    have hpk := plns_pure (repF planR k s1).1
    have hmp : (repF planR (k + 1) s1).1.map plnV = (repF planR k s1).1.map plnV ++ [plnV (planR (repF planR k s1).2).1] := by rw [hs]; simp
    have hsn : (repF planR (k + 1) s1).2 = (planR (repF planR k s1).2).2 := by rw [hs]
    have hpr1 : ∀ st, (planR st).1 = ⟨(oneF st 1048576).1, (oneF (oneF st 1048576).2 1048576).1, (timesR (oneF (oneF (oneF st 1048576).2 1048576).2 8).1.toNat (oneF (oneF (oneF st 1048576).2 1048576).2 8).2).1⟩ := fun _ => rfl
    have hpr2 : ∀ st, (planR st).2 = (timesR (oneF (oneF (oneF st 1048576).2 1048576).2 8).1.toNat (oneF (oneF (oneF st 1048576).2 1048576).2 8).2).2 := fun _ => rfl
    rw [hpr1] at hmp
    rw [hpr2] at hsn
    clear hpr1 hpr2 hs
    have hmp1 := plns_pure (repF planR (k + 1) s1).1
    have hll : ((repF planR k s1).1.map plnV).length = k := by rw [List.length_map]; exact hlk
    generalize hst : (repF planR k s1).2 = st at *
    have hpst := bts_pure st.b
    have q1 := one0_spec st 1048576 rest hr (by omega)
    generalize oneF st 1048576 = a at *
    have q2 := one0_spec a.2 1048576 rest hr (by omega)
    have hpa := bts_pure a.2.b
    generalize oneF a.2 1048576 = b at *
    have q3 := one0_spec b.2 8 rest hr (by omega)
    have hpb := bts_pure b.2.b
    have hc := oneF_in b.2 (most := 8) (by omega)
    generalize oneF b.2 8 = c at *
    have q4 := times0_spec c.2 c.1.toNat rest hr (by omega)
    rw [Int.toNat_of_nonneg hc.1] at q4
    have hpc := bts_pure c.2.b
    have hpi := ints_pure (timesR c.1.toNat c.2).1
    have hpd := bts_pure (timesR c.1.toNat c.2).2.b
    generalize timesR c.1.toNat c.2 = d at *
    simp (disch := omega) [go_sem, rdO]
    refine br_of (fun h => ?_) (fun h => ?_) <;> simp at h
    · simp (disch := omega) [go_sem]
      refine callK_ref q1 [(0, some 0)] [0] [] [] ?_ ?_ ?_ (.inl ⟨rfl, .inl rfl⟩) (fun _ => ?_)
      · simp [go_sem]
      · simp [go_sem, rdO, hpst, hr]
      · simp [go_sem, rdO]
      simp (disch := omega) [go_sem, rdO]
      refine callK_ref q2 [(0, some 0)] [0] [] [] ?_ ?_ ?_ (.inl ⟨rfl, .inl rfl⟩) (fun _ => ?_)
      · simp [go_sem]
      · simp [go_sem, rdO, hpa, hr]
      · simp [go_sem, rdO]
      simp (disch := omega) [go_sem, rdO]
      refine ⟨.inl (by kernel_rfl), ?_⟩
      refine callK_ref q3 [(0, some 0)] [0] [] [] ?_ ?_ ?_ (.inl ⟨rfl, .inl rfl⟩) (fun _ => ?_)
      · simp [go_sem]
      · simp [go_sem, rdO, hpb, hr]
      · simp [go_sem, rdO]
      simp (disch := omega) [go_sem, rdO]
      refine callK_ref q4 [(0, some 0)] [0] [] [] ?_ ?_ ?_ (.inl ⟨rfl, .inl rfl⟩) (fun _ => ?_)
      · simp [go_sem]
      · simp [go_sem, rdO, hpc, hr]
      · simp [go_sem, rdO]
      simp (disch := omega) [go_sem, rdO, hpi, hll]
      refine ⟨.inl (by kernel_rfl), ?_⟩
      refine ⟨by omega, round_of (k + 1) (by omega) (by omega) (Le.mk [(0, some 0), (1424, some 1424)] [0, 1424] ⟨rfl, rfl, rfl⟩ ?_ ?_ ?_)⟩ <;> simp [go_sem, rdO, plnV, hmp, hsn, hpk, hpi, hpd, hr]
    · have hkn : k = n := by omega
      subst hkn
      simp (disch := omega) [go_sem]
      refine Le.mk [(0, some 0)] [0] ⟨rfl, rfl, rfl⟩ ?_ ?_ ?_ <;> simp [go_sem, rdO, hst, hpst, hpk, hlk, hr]
end Go.Proofs.YtdeionjkcmpnpaaGreatDoor
