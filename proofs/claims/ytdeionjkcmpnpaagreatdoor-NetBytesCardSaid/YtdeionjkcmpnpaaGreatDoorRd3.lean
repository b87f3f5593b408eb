
/- The reader of the layer site: all of a site but its plans. -/
import Derived.Test.YtdeionjkcmpnpaaGreatDoorRd2
set_option linter.unusedSimpArgs false
set_option linter.unusedVariables false
namespace Go.Proofs.YtdeionjkcmpnpaaGreatDoor
open Go.AM Go.RowKit
set_option maxRecDepth 100000

def restV (i : Int) (g a b p e : V) (w f h lo hi : Int) (q : V) : List V := [.int .i64 i, g, a, b, p, e, .int .i64 w, .int .i64 f, .int .i64 h, .int .i64 lo, .int .i64 hi, q]
theorem sets_nil : sets [] = [] := rfl
theorem rows_nil : rows [] = [] := rfl
theorem sets_app (a b : List Nat) : sets (a ++ b) = sets a ++ sets b := by simp [sets]
theorem rows_app (a b : List (List Int)) : rows (a ++ b) = rows a ++ rows b := by simp [rows]
def tl6 (a b c d e f : RdS) : Nat → RdS
  | 0 => a
  | 1 => b
  | 2 => c
  | 3 => d
  | 4 => e
  | _ => f
def upTo (k j : Nat) (x : Int) : Int := if j < k then x else 0

set_option maxHeartbeats 16000000 in
theorem read_spec (s : RdS) : FnR Tryz.prog 159 [rdO s (restV 0 .nilS .nilS .nilS .nilS .nilS 0 0 0 0 0 .nilS)] [.ptr 0 1 0 0]
    [rdO (rHi s).2 (restV (rI s).1 (.sl 3 ((rG s).1.map grpV)) (.sl 1 (sets (rA s).1)) (.sl 1 (rows (rB s).1)) (.sl 5 ((rP s).1.map phaV)) (.sl 4 ((rE s).1.map eyeV)) (rW s).1 (rF s).1 (rH s).1 (rLo s).1 (rHi s).1 .nilS)] (.tup []) := by
  refine fnR_of mixed Tryz.func159 rfl rfl (by simp [Tryz.ntmps159]) (by simp) fun hwf E => ?_
  have ei : rI s = oneF s 65535 := rfl
  have en : rN s = oneF (rI s).2 16 := rfl
  have eg : rG s = repF grpR (rN s).1.toNat (rN s).2 := rfl
  have ea : rA s = repF apR (rN s).1.toNat (rG s).2 := rfl
  have eb : rB s = repF (timesR (rN s).1.toNat) (rN s).1.toNat (rA s).2 := rfl
  have emp : rMp s = oneF (rB s).2 8 := rfl
  have ep : rP s = repF phaR (rMp s).1.toNat (rMp s).2 := rfl
  have eme : rMe s = oneF (rP s).2 24 := rfl
  have ee : rE s = repF eyeR (rMe s).1.toNat (rMe s).2 := rfl
  have ew : rW s = oneF (rE s).2 1048576 := rfl
  have ef : rF s = oneF (rW s).2 1048576 := rfl
  have eh : rH s = oneF (rF s).2 1048576 := rfl
  have elo : rLo s = oneF (rH s).2 1048576 := rfl
  have ehi : rHi s = oneF (rLo s).2 1048576 := rfl
  generalize rHi s = vhi at *
  generalize rLo s = vlo at *
  generalize rH s = vh at *
  generalize rF s = vf at *
  generalize rW s = vw at *
  generalize rE s = ve at *
  generalize rMe s = vme at *
  generalize rP s = vp at *
  generalize rMp s = vmp at *
  generalize rB s = vb at *
  generalize rA s = va at *
  generalize rG s = vg at *
  generalize rN s = vn at *
  generalize rI s = vi at *
  have hps := bts_pure s.b
  have q1 := one0_spec s 65535 (restV 0 .nilS .nilS .nilS .nilS .nilS 0 0 0 0 0 .nilS) (by simp [restV, go_sem]) (by omega)
  rw [← ei] at q1
  have hi' := oneF_in s (most := 65535) (by omega)
  rw [← ei] at hi'
  have q2 := one0_spec vi.2 16 (restV vi.1 .nilS .nilS .nilS .nilS .nilS 0 0 0 0 0 .nilS) (by simp [restV, go_sem]) (by omega)
  rw [← en] at q2
  have hn' := oneF_in vi.2 (most := 16) (by omega)
  rw [← en] at hn'
  have hpi := bts_pure vi.2.b
  have hpn := bts_pure vn.2.b
  obtain ⟨N, hN⟩ := Int.eq_ofNat_of_zero_le hn'.1
  rw [hN, Int.toNat_natCast] at eg ea eb
  rw [hN] at hn'
  have hmp' := oneF_in vb.2 (most := 8) (by omega)
  rw [← emp] at hmp'
  obtain ⟨M, hM⟩ := Int.eq_ofNat_of_zero_le hmp'.1
  rw [hM, Int.toNat_natCast] at ep
  rw [hM] at hmp'
  have hme' := oneF_in vp.2 (most := 24) (by omega)
  rw [← eme] at hme'
  obtain ⟨K, hK⟩ := Int.eq_ofNat_of_zero_le hme'.1
  rw [hK, Int.toNat_natCast] at ee
  rw [hK] at hme'
  simp (disch := omega) [Tryz.ntmps159, go_sem, rdO, restV]
  refine callK_ref q1 [(0, some 0)] [0] [] [] ?_ ?_ ?_ (.inl ⟨rfl, .inl rfl⟩) (fun _ => ?_)
  · simp [go_sem]
  · simp [go_sem, rdO, hps, restV]
  · simp [go_sem, rdO]
  simp (disch := omega) [go_sem, rdO, restV]
  refine callK_ref q2 [(0, some 0)] [0] [] [] ?_ ?_ ?_ (.inl ⟨rfl, .inl rfl⟩) (fun _ => ?_)
  · simp [go_sem]
  · simp [go_sem, rdO, hpi, restV]
  · simp [go_sem, rdO]
  simp (disch := omega) [go_sem, rdO, restV, hN]
  refine awz_loop mixed (fun k : Nat => ⟨[(22, .int .i64 k), (21, .int .i64 N), (3, .int .i64 N), (2, .ptr 0 1 0 2), (0, .ptr 0 1 0 0)], [(1001, ⟨.arr, 148, 3, (repF grpR k vn.2).1.map grpV⟩), (0, rdO (repF grpR k vn.2).2 (restV vi.1 (.obj 1001 k) .nilS .nilS .nilS .nilS 0 0 0 0 0 .nilS))], 2048, [], 186, 1, []⟩) (fun k => k ≤ N) (fun k => N - k) 0 (by omega) ?_ ?_
  · refine Le.mk [(0, some 0), (1001, none)] [0] ⟨rfl, rfl, rfl⟩ ?_ ?_ ?_ <;> simp [go_sem, rdO, restV, repF, sets_nil, rows_nil, sets_len, rows_len, bts_pure, grps_pure, sets_pure, rows_pure, phas_pure, eyes_pure, ints_pure]
  · intro k hk
    have hlk : (repF grpR k vn.2).1.length = k := repF_len _ _ _
    have hs := repF_snoc grpR k vn.2
    have hmp : (repF grpR (k + 1) vn.2).1.map grpV = (repF grpR k vn.2).1.map grpV ++ [grpV (grpR (repF grpR k vn.2).2).1] := by rw [hs]; simp [sets, rows]
    have hsn : (repF grpR (k + 1) vn.2).2 = (grpR (repF grpR k vn.2).2).2 := by rw [hs]
    have hrl : ((repF grpR k vn.2).1.map grpV).length = k := by simpa [sets, rows] using hlk
    have hpx : pures ((repF grpR k vn.2).1.map grpV) := by simp [grps_pure, sets_pure, rows_pure, phas_pure, eyes_pure, ints_pure]
    have hpe : pures ((repF grpR (k + 1) vn.2).1.map grpV) := by simp [grps_pure, sets_pure, rows_pure, phas_pure, eyes_pure, ints_pure]
    rw [hmp] at hpe
    clear hs hlk
    have x1 : ∀ S, (grpR S).1 = ⟨(oneF S 255).1, (oneF (oneF S 255).2 1048576).1, (oneF (oneF (oneF S 255).2 1048576).2 1048576).1⟩ := fun _ => rfl
    have x2 : ∀ S, (grpR S).2 = (oneF (oneF (oneF S 255).2 1048576).2 1048576).2 := fun _ => rfl
    rw [x1] at hmp hpe
    rw [x2] at hsn
    clear x1 x2
    generalize hX : (repF grpR k vn.2).1.map grpV = X at *
    generalize hS : (repF grpR k vn.2).2 = S at *
    have q1 := one1_spec S 255 (restV vi.1 (.obj 1 k) .nilS .nilS .nilS .nilS 0 0 0 0 0 .nilS) (fun hp σ B h => by simp [restV, go_sem, h, grps_pure, sets_pure, rows_pure, phas_pure, eyes_pure, ints_pure]) (fun τ h => by simp [restV, go_sem, h, grps_pure, sets_pure, rows_pure, phas_pure, eyes_pure, ints_pure]) 148 3 X hpx (by omega) (by omega)
    have b1 := oneF_in S (most := 255) (by omega)
    generalize oneF S 255 = o1 at *
    have q2 := one1_spec o1.2 1048576 (restV vi.1 (.obj 1 k) .nilS .nilS .nilS .nilS 0 0 0 0 0 .nilS) (fun hp σ B h => by simp [restV, go_sem, h, grps_pure, sets_pure, rows_pure, phas_pure, eyes_pure, ints_pure]) (fun τ h => by simp [restV, go_sem, h, grps_pure, sets_pure, rows_pure, phas_pure, eyes_pure, ints_pure]) 148 3 X hpx (by omega) (by omega)
    have b2 := oneF_in o1.2 (most := 1048576) (by omega)
    generalize oneF o1.2 1048576 = o2 at *
    have q3 := one1_spec o2.2 1048576 (restV vi.1 (.obj 1 k) .nilS .nilS .nilS .nilS 0 0 0 0 0 .nilS) (fun hp σ B h => by simp [restV, go_sem, h, grps_pure, sets_pure, rows_pure, phas_pure, eyes_pure, ints_pure]) (fun τ h => by simp [restV, go_sem, h, grps_pure, sets_pure, rows_pure, phas_pure, eyes_pure, ints_pure]) 148 3 X hpx (by omega) (by omega)
    have b3 := oneF_in o2.2 (most := 1048576) (by omega)
    generalize oneF o2.2 1048576 = o3 at *
    simp (disch := omega) [go_sem, rdO, restV]
    refine br_of (fun h => ?_) (fun h => ?_) <;> simp at h
    · simp (disch := omega) [go_sem, rdO, restV, hrl]
      refine callK_ref q1 [(0, some 0), (1, some 1001)] [0, 1001] [] [] ?_ ?_ ?_ (.inl ⟨rfl, .inl rfl⟩) (fun _ => ?_)
      · simp [go_sem]
      · simp [go_sem, rdO, restV, grps_pure, sets_pure, rows_pure, phas_pure, eyes_pure, ints_pure, bts_pure, hpx]
      · simp [go_sem, rdO, restV]
      simp (disch := omega) [go_sem, rdO, restV, hrl]
      refine callK_ref q2 [(0, some 0), (1, some 1001)] [0, 1001] [] [] ?_ ?_ ?_ (.inl ⟨rfl, .inl rfl⟩) (fun _ => ?_)
      · simp [go_sem]
      · simp [go_sem, rdO, restV, grps_pure, sets_pure, rows_pure, phas_pure, eyes_pure, ints_pure, bts_pure, hpx]
      · simp [go_sem, rdO, restV]
      simp (disch := omega) [go_sem, rdO, restV, hrl]
      refine callK_ref q3 [(0, some 0), (1, some 1001)] [0, 1001] [] [] ?_ ?_ ?_ (.inl ⟨rfl, .inl rfl⟩) (fun _ => ?_)
      · simp [go_sem]
      · simp [go_sem, rdO, restV, grps_pure, sets_pure, rows_pure, phas_pure, eyes_pure, ints_pure, bts_pure, hpx]
      · simp [go_sem, rdO, restV]
      simp (disch := omega) [go_sem, rdO, restV, hrl]
      refine ⟨by omega, .inr ⟨[(4, 8), (4, 13), (4, 17)], by kernel_rfl, by simp [lateAll, lateOne, lateIn, go_sem]⟩, round_of (k + 1) (by omega) (by omega) (Le.mk [(0, some 0), (1001, some 1001)] [0, 1001] ⟨rfl, rfl, rfl⟩ ?_ ?_ ?_)⟩ <;> simp [go_sem, rdO, restV, hmp, hsn, hpx, grps_pure, sets_pure, rows_pure, phas_pure, eyes_pure, ints_pure, bts_pure, hpe, grpV]
    · have hkn : N = k := by omega
      subst hkn
      rw [← eg] at hX hS
      subst hX
      subst hS
      have hl_g : vg.1.length = N := by simpa [sets, rows] using hrl
      simp (disch := omega) [go_sem, rdO, restV, hl_g, sets_len, rows_len]
      refine awz_loop mixed (fun k : Nat => ⟨[(49, .int .i64 k), (48, .int .i64 N), (3, .int .i64 N), (2, .ptr 0 1 0 2), (0, .ptr 0 1 0 0)], [(1002, ⟨.arr, 149, 1, sets (repF apR k vg.2).1⟩), (0, rdO (repF apR k vg.2).2 (restV vi.1 (.sl 3 (vg.1.map grpV)) (.obj 1002 k) .nilS .nilS .nilS 0 0 0 0 0 .nilS))], 4096, [], 186, 1, []⟩) (fun k => k ≤ N) (fun k => N - k) 0 (by omega) ?_ ?_
      · refine Le.mk [(0, some 0), (1002, none)] [0] ⟨rfl, rfl, rfl⟩ ?_ ?_ ?_ <;> simp [go_sem, rdO, restV, repF, sets_nil, rows_nil, sets_len, rows_len, bts_pure, grps_pure, sets_pure, rows_pure, phas_pure, eyes_pure, ints_pure, hl_g]
      · intro k hk
        have hlk : (repF apR k vg.2).1.length = k := repF_len _ _ _
        have hs := repF_snoc apR k vg.2
        have hmp : sets (repF apR (k + 1) vg.2).1 = sets (repF apR k vg.2).1 ++ [.int .u32 ((apR (repF apR k vg.2).2).1 : Int)] := by rw [hs]; simp [sets, rows]
        have hsn : (repF apR (k + 1) vg.2).2 = (apR (repF apR k vg.2).2).2 := by rw [hs]
        have hrl : (sets (repF apR k vg.2).1).length = k := by simpa [sets, rows] using hlk
        have hpx : pures (sets (repF apR k vg.2).1) := by simp [grps_pure, sets_pure, rows_pure, phas_pure, eyes_pure, ints_pure]
        have hpe : pures (sets (repF apR (k + 1) vg.2).1) := by simp [grps_pure, sets_pure, rows_pure, phas_pure, eyes_pure, ints_pure]
        rw [hmp] at hpe
        clear hs hlk
        have x1 : ∀ S, (apR S).1 = (oneF S 65536).1.toNat := fun _ => rfl
        have x2 : ∀ S, (apR S).2 = (oneF S 65536).2 := fun _ => rfl
        rw [x1] at hmp hpe
        rw [x2] at hsn
        clear x1 x2
        generalize hX : sets (repF apR k vg.2).1 = X at *
        generalize hS : (repF apR k vg.2).2 = S at *
        have q1 := one1_spec S 65536 (restV vi.1 (.sl 3 (vg.1.map grpV)) (.obj 1 k) .nilS .nilS .nilS 0 0 0 0 0 .nilS) (fun hp σ B h => by simp [restV, go_sem, h, grps_pure, sets_pure, rows_pure, phas_pure, eyes_pure, ints_pure]) (fun τ h => by simp [restV, go_sem, h, grps_pure, sets_pure, rows_pure, phas_pure, eyes_pure, ints_pure]) 149 1 X hpx (by omega) (by omega)
        have b1 := oneF_in S (most := 65536) (by omega)
        generalize oneF S 65536 = o1 at *
        rw [Int.toNat_of_nonneg b1.1] at hmp hpe
        simp (disch := omega) [go_sem, rdO, restV]
        refine br_of (fun h => ?_) (fun h => ?_) <;> simp at h
        · simp (disch := omega) [go_sem, rdO, restV, hrl]
          refine callK_ref q1 [(0, some 0), (1, some 1002)] [0, 1002] [] [] ?_ ?_ ?_ (.inl ⟨rfl, .inl rfl⟩) (fun _ => ?_)
          · simp [go_sem]
          · simp [go_sem, rdO, restV, grps_pure, sets_pure, rows_pure, phas_pure, eyes_pure, ints_pure, bts_pure, hpx]
          · simp [go_sem, rdO, restV]
          simp (disch := omega) [go_sem, rdO, restV, hrl]
          refine ⟨by omega, .inr ⟨[(4, 8)], by kernel_rfl, by simp [lateAll, lateOne, lateIn, go_sem]⟩, round_of (k + 1) (by omega) (by omega) (Le.mk [(0, some 0), (1002, some 1002)] [0, 1002] ⟨rfl, rfl, rfl⟩ ?_ ?_ ?_)⟩ <;> simp [go_sem, rdO, restV, hmp, hsn, hpx, grps_pure, sets_pure, rows_pure, phas_pure, eyes_pure, ints_pure, bts_pure, hpe]
        · have hkn : N = k := by omega
          subst hkn
          rw [← ea] at hX hS
          subst hX
          subst hS
          have hl_a : va.1.length = N := by simpa [sets, rows] using hrl
          simp (disch := omega) [go_sem, rdO, restV, hl_a, sets_len, rows_len]
          refine awz_loop mixed (fun k : Nat => ⟨[(67, .int .i64 k), (66, .int .i64 N), (3, .int .i64 N), (2, .ptr 0 1 0 2), (0, .ptr 0 1 0 0)], [(1003, ⟨.arr, 52, 1, rows (repF (timesR N) k va.2).1⟩), (0, rdO (repF (timesR N) k va.2).2 (restV vi.1 (.sl 3 (vg.1.map grpV)) (.sl 1 (sets va.1)) (.obj 1003 k) .nilS .nilS 0 0 0 0 0 .nilS))], 8192, [], 186, 1, []⟩) (fun k => k ≤ N) (fun k => N - k) 0 (by omega) ?_ ?_
          · refine Le.mk [(0, some 0), (1003, none)] [0] ⟨rfl, rfl, rfl⟩ ?_ ?_ ?_ <;> simp [go_sem, rdO, restV, repF, sets_nil, rows_nil, sets_len, rows_len, bts_pure, grps_pure, sets_pure, rows_pure, phas_pure, eyes_pure, ints_pure, hl_a]
          · intro k hk
            have hlk : (repF (timesR N) k va.2).1.length = k := repF_len _ _ _
            have hs := repF_snoc (timesR N) k va.2
            have hmp : rows (repF (timesR N) (k + 1) va.2).1 = rows (repF (timesR N) k va.2).1 ++ [.sl 1 (ints (timesR N (repF (timesR N) k va.2).2).1)] := by rw [hs]; simp [sets, rows]
            have hsn : (repF (timesR N) (k + 1) va.2).2 = (timesR N (repF (timesR N) k va.2).2).2 := by rw [hs]
            have hrl : (rows (repF (timesR N) k va.2).1).length = k := by simpa [sets, rows] using hlk
            have hpx : pures (rows (repF (timesR N) k va.2).1) := by simp [grps_pure, sets_pure, rows_pure, phas_pure, eyes_pure, ints_pure]
            have hpe : pures (rows (repF (timesR N) (k + 1) va.2).1) := by simp [grps_pure, sets_pure, rows_pure, phas_pure, eyes_pure, ints_pure]
            rw [hmp] at hpe
            clear hs hlk
            generalize hX : rows (repF (timesR N) k va.2).1 = X at *
            generalize hS : (repF (timesR N) k va.2).2 = S at *
            have q1 := times1_spec S N (restV vi.1 (.sl 3 (vg.1.map grpV)) (.sl 1 (sets va.1)) (.obj 1 k) .nilS .nilS 0 0 0 0 0 .nilS) (fun hp σ B h => by simp [restV, go_sem, h, grps_pure, sets_pure, rows_pure, phas_pure, eyes_pure, ints_pure]) (fun τ h => by simp [restV, go_sem, h, grps_pure, sets_pure, rows_pure, phas_pure, eyes_pure, ints_pure]) 52 1 X hpx (by omega) (by omega)
            have hpy := ints_pure (timesR N S).1
            generalize timesR N S = o1 at *
            simp (disch := omega) [go_sem, rdO, restV]
            refine br_of (fun h => ?_) (fun h => ?_) <;> simp at h
            · simp (disch := omega) [go_sem, rdO, restV, hrl]
              refine callK_ref q1 [(0, some 0), (1, some 1003)] [0, 1003] [] [] ?_ ?_ ?_ (.inl ⟨rfl, .inl rfl⟩) (fun _ => ?_)
              · simp [go_sem]
              · simp [go_sem, rdO, restV, grps_pure, sets_pure, rows_pure, phas_pure, eyes_pure, ints_pure, bts_pure, hpx]
              · simp [go_sem, rdO, restV]
              simp (disch := omega) [go_sem, rdO, restV, hrl, hpy]
              refine ⟨by omega, .inr ⟨[(4, 9)], by kernel_rfl, by simp [lateAll, lateOne, lateIn, go_sem]⟩, round_of (k + 1) (by omega) (by omega) (Le.mk [(0, some 0), (1003, some 1003)] [0, 1003] ⟨rfl, rfl, rfl⟩ ?_ ?_ ?_)⟩ <;> simp [go_sem, rdO, restV, hmp, hsn, hpx, grps_pure, sets_pure, rows_pure, phas_pure, eyes_pure, ints_pure, bts_pure, hpe]
            · have hkn : N = k := by omega
              subst hkn
              rw [← eb] at hX hS
              subst hX
              subst hS
              have hl_b : vb.1.length = N := by simpa [sets, rows] using hrl
              simp (disch := omega) [go_sem, rdO, restV, hl_b, sets_len, rows_len]
              have qm := one1_spec vb.2 8 (restV vi.1 (.sl 3 (vg.1.map grpV)) (.sl 1 (sets va.1)) (.obj 1 N) .nilS .nilS 0 0 0 0 0 .nilS) (fun hp σ B h => by simp [restV, go_sem, h, grps_pure, sets_pure, rows_pure, phas_pure, eyes_pure, ints_pure]) (fun τ h => by simp [restV, go_sem, h, grps_pure, sets_pure, rows_pure, phas_pure, eyes_pure, ints_pure]) 52 1 (rows vb.1) hpx (by omega) (by omega)
              rw [← emp] at qm
              refine callK_ref qm [(0, some 0), (1, some 1003)] [0, 1003] [] [] ?_ ?_ ?_ (.inl ⟨rfl, .inl rfl⟩) (fun _ => ?_)
              · simp [go_sem]
              · simp [go_sem, rdO, restV, grps_pure, sets_pure, rows_pure, phas_pure, eyes_pure, ints_pure, bts_pure, hpx, hl_b, sets_len, rows_len]
              · simp [go_sem, rdO, restV]
              simp (disch := omega) [go_sem, rdO, restV, hM]
              refine awz_loop mixed (fun k : Nat => ⟨[(88, .int .i64 k), (87, .int .i64 M), (2, .ptr 0 1 0 2), (0, .ptr 0 1 0 0)], [(1004, ⟨.arr, 151, 5, (repF phaR k vmp.2).1.map phaV⟩), (0, rdO (repF phaR k vmp.2).2 (restV vi.1 (.sl 3 (vg.1.map grpV)) (.sl 1 (sets va.1)) (.sl 1 (rows vb.1)) (.obj 1004 k) .nilS 0 0 0 0 0 .nilS))], 16384, [], 186, 1, []⟩) (fun k => k ≤ M) (fun k => M - k) 0 (by omega) ?_ ?_
              · refine Le.mk [(0, some 0), (1004, none)] [0] ⟨rfl, rfl, rfl⟩ ?_ ?_ ?_ <;> simp [go_sem, rdO, restV, repF, sets_nil, rows_nil, sets_len, rows_len, bts_pure, grps_pure, sets_pure, rows_pure, phas_pure, eyes_pure, ints_pure, hl_b]
              · intro k hk
                have hlk : (repF phaR k vmp.2).1.length = k := repF_len _ _ _
                have hs := repF_snoc phaR k vmp.2
                have hmp : (repF phaR (k + 1) vmp.2).1.map phaV = (repF phaR k vmp.2).1.map phaV ++ [phaV (phaR (repF phaR k vmp.2).2).1] := by rw [hs]; simp [sets, rows]
                have hsn : (repF phaR (k + 1) vmp.2).2 = (phaR (repF phaR k vmp.2).2).2 := by rw [hs]
                have hrl : ((repF phaR k vmp.2).1.map phaV).length = k := by simpa [sets, rows] using hlk
                have hpx : pures ((repF phaR k vmp.2).1.map phaV) := by simp [grps_pure, sets_pure, rows_pure, phas_pure, eyes_pure, ints_pure]
                have hpe : pures ((repF phaR (k + 1) vmp.2).1.map phaV) := by simp [grps_pure, sets_pure, rows_pure, phas_pure, eyes_pure, ints_pure]
                rw [hmp] at hpe
                clear hs hlk
                have x1 : ∀ S, (phaR S).1 = ⟨(oneF S 65536).1.toNat, (oneF (oneF S 65536).2 1048576).1, (oneF (oneF (oneF S 65536).2 1048576).2 1048576).1, (oneF (oneF (oneF (oneF S 65536).2 1048576).2 1048576).2 1048576).1, (oneF (oneF (oneF (oneF (oneF S 65536).2 1048576).2 1048576).2 1048576).2 1).1 == 1⟩ := fun _ => rfl
                have x2 : ∀ S, (phaR S).2 = (oneF (oneF (oneF (oneF (oneF S 65536).2 1048576).2 1048576).2 1048576).2 1).2 := fun _ => rfl
                rw [x1] at hmp hpe
                rw [x2] at hsn
                clear x1 x2
                generalize hX : (repF phaR k vmp.2).1.map phaV = X at *
                generalize hS : (repF phaR k vmp.2).2 = S at *
                have q1 := one1_spec S 65536 (restV vi.1 (.sl 3 (vg.1.map grpV)) (.sl 1 (sets va.1)) (.sl 1 (rows vb.1)) (.obj 1 k) .nilS 0 0 0 0 0 .nilS) (fun hp σ B h => by simp [restV, go_sem, h, grps_pure, sets_pure, rows_pure, phas_pure, eyes_pure, ints_pure]) (fun τ h => by simp [restV, go_sem, h, grps_pure, sets_pure, rows_pure, phas_pure, eyes_pure, ints_pure]) 151 5 X hpx (by omega) (by omega)
                have b1 := oneF_in S (most := 65536) (by omega)
                generalize oneF S 65536 = o1 at *
                have q2 := one1_spec o1.2 1048576 (restV vi.1 (.sl 3 (vg.1.map grpV)) (.sl 1 (sets va.1)) (.sl 1 (rows vb.1)) (.obj 1 k) .nilS 0 0 0 0 0 .nilS) (fun hp σ B h => by simp [restV, go_sem, h, grps_pure, sets_pure, rows_pure, phas_pure, eyes_pure, ints_pure]) (fun τ h => by simp [restV, go_sem, h, grps_pure, sets_pure, rows_pure, phas_pure, eyes_pure, ints_pure]) 151 5 X hpx (by omega) (by omega)
                have b2 := oneF_in o1.2 (most := 1048576) (by omega)
                generalize oneF o1.2 1048576 = o2 at *
                have q3 := one1_spec o2.2 1048576 (restV vi.1 (.sl 3 (vg.1.map grpV)) (.sl 1 (sets va.1)) (.sl 1 (rows vb.1)) (.obj 1 k) .nilS 0 0 0 0 0 .nilS) (fun hp σ B h => by simp [restV, go_sem, h, grps_pure, sets_pure, rows_pure, phas_pure, eyes_pure, ints_pure]) (fun τ h => by simp [restV, go_sem, h, grps_pure, sets_pure, rows_pure, phas_pure, eyes_pure, ints_pure]) 151 5 X hpx (by omega) (by omega)
                have b3 := oneF_in o2.2 (most := 1048576) (by omega)
                generalize oneF o2.2 1048576 = o3 at *
                have q4 := one1_spec o3.2 1048576 (restV vi.1 (.sl 3 (vg.1.map grpV)) (.sl 1 (sets va.1)) (.sl 1 (rows vb.1)) (.obj 1 k) .nilS 0 0 0 0 0 .nilS) (fun hp σ B h => by simp [restV, go_sem, h, grps_pure, sets_pure, rows_pure, phas_pure, eyes_pure, ints_pure]) (fun τ h => by simp [restV, go_sem, h, grps_pure, sets_pure, rows_pure, phas_pure, eyes_pure, ints_pure]) 151 5 X hpx (by omega) (by omega)
                have b4 := oneF_in o3.2 (most := 1048576) (by omega)
                generalize oneF o3.2 1048576 = o4 at *
                have q5 := one1_spec o4.2 1 (restV vi.1 (.sl 3 (vg.1.map grpV)) (.sl 1 (sets va.1)) (.sl 1 (rows vb.1)) (.obj 1 k) .nilS 0 0 0 0 0 .nilS) (fun hp σ B h => by simp [restV, go_sem, h, grps_pure, sets_pure, rows_pure, phas_pure, eyes_pure, ints_pure]) (fun τ h => by simp [restV, go_sem, h, grps_pure, sets_pure, rows_pure, phas_pure, eyes_pure, ints_pure]) 151 5 X hpx (by omega) (by omega)
                have b5 := oneF_in o4.2 (most := 1) (by omega)
                generalize oneF o4.2 1 = o5 at *
                simp only [phaV] at hmp hpe
                rw [Int.toNat_of_nonneg b1.1] at hmp hpe
                simp (disch := omega) [go_sem, rdO, restV]
                refine br_of (fun h => ?_) (fun h => ?_) <;> simp at h
                · simp (disch := omega) [go_sem, rdO, restV, hrl]
                  refine callK_ref q1 [(0, some 0), (1, some 1004)] [0, 1004] [] [] ?_ ?_ ?_ (.inl ⟨rfl, .inl rfl⟩) (fun _ => ?_)
                  · simp [go_sem]
                  · simp [go_sem, rdO, restV, grps_pure, sets_pure, rows_pure, phas_pure, eyes_pure, ints_pure, bts_pure, hpx]
                  · simp [go_sem, rdO, restV]
                  simp (disch := omega) [go_sem, rdO, restV, hrl]
                  refine callK_ref q2 [(0, some 0), (1, some 1004)] [0, 1004] [] [] ?_ ?_ ?_ (.inl ⟨rfl, .inl rfl⟩) (fun _ => ?_)
                  · simp [go_sem]
                  · simp [go_sem, rdO, restV, grps_pure, sets_pure, rows_pure, phas_pure, eyes_pure, ints_pure, bts_pure, hpx]
                  · simp [go_sem, rdO, restV]
                  simp (disch := omega) [go_sem, rdO, restV, hrl]
                  refine callK_ref q3 [(0, some 0), (1, some 1004)] [0, 1004] [] [] ?_ ?_ ?_ (.inl ⟨rfl, .inl rfl⟩) (fun _ => ?_)
                  · simp [go_sem]
                  · simp [go_sem, rdO, restV, grps_pure, sets_pure, rows_pure, phas_pure, eyes_pure, ints_pure, bts_pure, hpx]
                  · simp [go_sem, rdO, restV]
                  simp (disch := omega) [go_sem, rdO, restV, hrl]
                  refine callK_ref q4 [(0, some 0), (1, some 1004)] [0, 1004] [] [] ?_ ?_ ?_ (.inl ⟨rfl, .inl rfl⟩) (fun _ => ?_)
                  · simp [go_sem]
                  · simp [go_sem, rdO, restV, grps_pure, sets_pure, rows_pure, phas_pure, eyes_pure, ints_pure, bts_pure, hpx]
                  · simp [go_sem, rdO, restV]
                  simp (disch := omega) [go_sem, rdO, restV, hrl]
                  refine ⟨.inl (by kernel_rfl), ?_⟩
                  refine callK_ref q5 [(0, some 0), (1, some 1004)] [0, 1004] [] [] ?_ ?_ ?_ (.inl ⟨rfl, .inl rfl⟩) (fun _ => ?_)
                  · simp [go_sem]
                  · simp [go_sem, rdO, restV, grps_pure, sets_pure, rows_pure, phas_pure, eyes_pure, ints_pure, bts_pure, hpx]
                  · simp [go_sem, rdO, restV]
                  simp (disch := omega) [go_sem, rdO, restV, hrl]
                  refine ⟨by omega, .inl (by kernel_rfl), round_of (k + 1) (by omega) (by omega) (Le.mk [(0, some 0), (1004, some 1004)] [0, 1004] ⟨rfl, rfl, rfl⟩ ?_ ?_ ?_)⟩ <;> simp [go_sem, rdO, restV, hmp, hsn, hpx, grps_pure, sets_pure, rows_pure, phas_pure, eyes_pure, ints_pure, bts_pure, hpe, phaV]
                · have hkn : M = k := by omega
                  subst hkn
                  rw [← ep] at hX hS
                  subst hX
                  subst hS
                  have hl_p : vp.1.length = M := by simpa [sets, rows] using hrl
                  simp (disch := omega) [go_sem, rdO, restV, hl_p, sets_len, rows_len]
                  have qm := one1_spec vp.2 24 (restV vi.1 (.sl 3 (vg.1.map grpV)) (.sl 1 (sets va.1)) (.sl 1 (rows vb.1)) (.obj 1 M) .nilS 0 0 0 0 0 .nilS) (fun hp σ B h => by simp [restV, go_sem, h, grps_pure, sets_pure, rows_pure, phas_pure, eyes_pure, ints_pure]) (fun τ h => by simp [restV, go_sem, h, grps_pure, sets_pure, rows_pure, phas_pure, eyes_pure, ints_pure]) 151 5 (vp.1.map phaV) hpx (by omega) (by omega)
                  rw [← eme] at qm
                  refine callK_ref qm [(0, some 0), (1, some 1004)] [0, 1004] [] [] ?_ ?_ ?_ (.inl ⟨rfl, .inl rfl⟩) (fun _ => ?_)
                  · simp [go_sem]
                  · simp [go_sem, rdO, restV, grps_pure, sets_pure, rows_pure, phas_pure, eyes_pure, ints_pure, bts_pure, hpx, hl_p, sets_len, rows_len]
                  · simp [go_sem, rdO, restV]
                  simp (disch := omega) [go_sem, rdO, restV, hK]
                  refine awz_loop mixed (fun k : Nat => ⟨[(129, .int .i64 k), (128, .int .i64 K), (2, .ptr 0 1 0 2), (0, .ptr 0 1 0 0)], [(1005, ⟨.arr, 154, 4, (repF eyeR k vme.2).1.map eyeV⟩), (0, rdO (repF eyeR k vme.2).2 (restV vi.1 (.sl 3 (vg.1.map grpV)) (.sl 1 (sets va.1)) (.sl 1 (rows vb.1)) (.sl 5 (vp.1.map phaV)) (.obj 1005 k) 0 0 0 0 0 .nilS))], 32768, [], 186, 1, []⟩) (fun k => k ≤ K) (fun k => K - k) 0 (by omega) ?_ ?_
                  · refine Le.mk [(0, some 0), (1005, none)] [0] ⟨rfl, rfl, rfl⟩ ?_ ?_ ?_ <;> simp [go_sem, rdO, restV, repF, sets_nil, rows_nil, sets_len, rows_len, bts_pure, grps_pure, sets_pure, rows_pure, phas_pure, eyes_pure, ints_pure, hl_p]
                  · intro k hk
                    have hlk : (repF eyeR k vme.2).1.length = k := repF_len _ _ _
                    have hs := repF_snoc eyeR k vme.2
                    have hmp : (repF eyeR (k + 1) vme.2).1.map eyeV = (repF eyeR k vme.2).1.map eyeV ++ [eyeV (eyeR (repF eyeR k vme.2).2).1] := by rw [hs]; simp [sets, rows]
                    have hsn : (repF eyeR (k + 1) vme.2).2 = (eyeR (repF eyeR k vme.2).2).2 := by rw [hs]
                    have hrl : ((repF eyeR k vme.2).1.map eyeV).length = k := by simpa [sets, rows] using hlk
                    have hpx : pures ((repF eyeR k vme.2).1.map eyeV) := by simp [grps_pure, sets_pure, rows_pure, phas_pure, eyes_pure, ints_pure]
                    have hpe : pures ((repF eyeR (k + 1) vme.2).1.map eyeV) := by simp [grps_pure, sets_pure, rows_pure, phas_pure, eyes_pure, ints_pure]
                    rw [hmp] at hpe
                    clear hs hlk
                    have x1 : ∀ S, (eyeR S).1 = ⟨(oneF S 8).1, (oneF (oneF S 8).2 1048576).1, (oneF (oneF (oneF S 8).2 1048576).2 1048576).1, (oneF (oneF (oneF (oneF S 8).2 1048576).2 1048576).2 64).1⟩ := fun _ => rfl
                    have x2 : ∀ S, (eyeR S).2 = (oneF (oneF (oneF (oneF S 8).2 1048576).2 1048576).2 64).2 := fun _ => rfl
                    rw [x1] at hmp hpe
                    rw [x2] at hsn
                    clear x1 x2
                    generalize hX : (repF eyeR k vme.2).1.map eyeV = X at *
                    generalize hS : (repF eyeR k vme.2).2 = S at *
                    have q1 := one1_spec S 8 (restV vi.1 (.sl 3 (vg.1.map grpV)) (.sl 1 (sets va.1)) (.sl 1 (rows vb.1)) (.sl 5 (vp.1.map phaV)) (.obj 1 k) 0 0 0 0 0 .nilS) (fun hp σ B h => by simp [restV, go_sem, h, grps_pure, sets_pure, rows_pure, phas_pure, eyes_pure, ints_pure]) (fun τ h => by simp [restV, go_sem, h, grps_pure, sets_pure, rows_pure, phas_pure, eyes_pure, ints_pure]) 154 4 X hpx (by omega) (by omega)
                    have b1 := oneF_in S (most := 8) (by omega)
                    generalize oneF S 8 = o1 at *
                    have q2 := one1_spec o1.2 1048576 (restV vi.1 (.sl 3 (vg.1.map grpV)) (.sl 1 (sets va.1)) (.sl 1 (rows vb.1)) (.sl 5 (vp.1.map phaV)) (.obj 1 k) 0 0 0 0 0 .nilS) (fun hp σ B h => by simp [restV, go_sem, h, grps_pure, sets_pure, rows_pure, phas_pure, eyes_pure, ints_pure]) (fun τ h => by simp [restV, go_sem, h, grps_pure, sets_pure, rows_pure, phas_pure, eyes_pure, ints_pure]) 154 4 X hpx (by omega) (by omega)
                    have b2 := oneF_in o1.2 (most := 1048576) (by omega)
                    generalize oneF o1.2 1048576 = o2 at *
                    have q3 := one1_spec o2.2 1048576 (restV vi.1 (.sl 3 (vg.1.map grpV)) (.sl 1 (sets va.1)) (.sl 1 (rows vb.1)) (.sl 5 (vp.1.map phaV)) (.obj 1 k) 0 0 0 0 0 .nilS) (fun hp σ B h => by simp [restV, go_sem, h, grps_pure, sets_pure, rows_pure, phas_pure, eyes_pure, ints_pure]) (fun τ h => by simp [restV, go_sem, h, grps_pure, sets_pure, rows_pure, phas_pure, eyes_pure, ints_pure]) 154 4 X hpx (by omega) (by omega)
                    have b3 := oneF_in o2.2 (most := 1048576) (by omega)
                    generalize oneF o2.2 1048576 = o3 at *
                    have q4 := one1_spec o3.2 64 (restV vi.1 (.sl 3 (vg.1.map grpV)) (.sl 1 (sets va.1)) (.sl 1 (rows vb.1)) (.sl 5 (vp.1.map phaV)) (.obj 1 k) 0 0 0 0 0 .nilS) (fun hp σ B h => by simp [restV, go_sem, h, grps_pure, sets_pure, rows_pure, phas_pure, eyes_pure, ints_pure]) (fun τ h => by simp [restV, go_sem, h, grps_pure, sets_pure, rows_pure, phas_pure, eyes_pure, ints_pure]) 154 4 X hpx (by omega) (by omega)
                    have b4 := oneF_in o3.2 (most := 64) (by omega)
                    generalize oneF o3.2 64 = o4 at *
                    simp (disch := omega) [go_sem, rdO, restV]
                    refine br_of (fun h => ?_) (fun h => ?_) <;> simp at h
                    · simp (disch := omega) [go_sem, rdO, restV, hrl]
                      refine callK_ref q1 [(0, some 0), (1, some 1005)] [0, 1005] [] [] ?_ ?_ ?_ (.inl ⟨rfl, .inl rfl⟩) (fun _ => ?_)
                      · simp [go_sem]
                      · simp [go_sem, rdO, restV, grps_pure, sets_pure, rows_pure, phas_pure, eyes_pure, ints_pure, bts_pure, hpx]
                      · simp [go_sem, rdO, restV]
                      simp (disch := omega) [go_sem, rdO, restV, hrl]
                      refine callK_ref q2 [(0, some 0), (1, some 1005)] [0, 1005] [] [] ?_ ?_ ?_ (.inl ⟨rfl, .inl rfl⟩) (fun _ => ?_)
                      · simp [go_sem]
                      · simp [go_sem, rdO, restV, grps_pure, sets_pure, rows_pure, phas_pure, eyes_pure, ints_pure, bts_pure, hpx]
                      · simp [go_sem, rdO, restV]
                      simp (disch := omega) [go_sem, rdO, restV, hrl]
                      refine callK_ref q3 [(0, some 0), (1, some 1005)] [0, 1005] [] [] ?_ ?_ ?_ (.inl ⟨rfl, .inl rfl⟩) (fun _ => ?_)
                      · simp [go_sem]
                      · simp [go_sem, rdO, restV, grps_pure, sets_pure, rows_pure, phas_pure, eyes_pure, ints_pure, bts_pure, hpx]
                      · simp [go_sem, rdO, restV]
                      simp (disch := omega) [go_sem, rdO, restV, hrl]
                      refine callK_ref q4 [(0, some 0), (1, some 1005)] [0, 1005] [] [] ?_ ?_ ?_ (.inl ⟨rfl, .inl rfl⟩) (fun _ => ?_)
                      · simp [go_sem]
                      · simp [go_sem, rdO, restV, grps_pure, sets_pure, rows_pure, phas_pure, eyes_pure, ints_pure, bts_pure, hpx]
                      · simp [go_sem, rdO, restV]
                      simp (disch := omega) [go_sem, rdO, restV, hrl]
                      refine ⟨by omega, .inr ⟨[(4, 8), (4, 12), (4, 16), (4, 20)], by kernel_rfl, by simp [lateAll, lateOne, lateIn, go_sem]⟩, round_of (k + 1) (by omega) (by omega) (Le.mk [(0, some 0), (1005, some 1005)] [0, 1005] ⟨rfl, rfl, rfl⟩ ?_ ?_ ?_)⟩ <;> simp [go_sem, rdO, restV, hmp, hsn, hpx, grps_pure, sets_pure, rows_pure, phas_pure, eyes_pure, ints_pure, bts_pure, hpe, eyeV]
                    · have hkn : K = k := by omega
                      subst hkn
                      rw [← ee] at hX hS
                      subst hX
                      subst hS
                      have hl_e : ve.1.length = K := by simpa [sets, rows] using hrl
                      simp (disch := omega) [go_sem, rdO, restV, hl_e, sets_len, rows_len]
                      refine ⟨.inl (by kernel_rfl), ?_⟩
                      refine awz_loop mixed (fun k : Nat => ⟨[(175, .int .i64 k), (174, .int .i64 5), (173, .obj 33024 5), (0, .ptr 0 1 0 0)], [(33024, ⟨.arr, 253, 1, [.ptr 0 1 0 8, .ptr 0 1 0 9, .ptr 0 1 0 10, .ptr 0 1 0 11, .ptr 0 1 0 12]⟩), (0, rdO (tl6 ve.2 vw.2 vf.2 vh.2 vlo.2 vhi.2 k) (restV vi.1 (.sl 3 (vg.1.map grpV)) (.sl 1 (sets va.1)) (.sl 1 (rows vb.1)) (.sl 5 (vp.1.map phaV)) (.sl 4 (ve.1.map eyeV)) (upTo k 0 vw.1) (upTo k 1 vf.1) (upTo k 2 vh.1) (upTo k 3 vlo.1) (upTo k 4 vhi.1) .nilS))], 65536, [], 186, 1, []⟩) (fun k => k ≤ 5) (fun k => 5 - k) 0 (by omega) ?_ ?_
                      · refine Le.mk [(0, some 0), (33024, some 33024)] [0, 33024] ⟨rfl, rfl, rfl⟩ ?_ ?_ ?_ <;> simp [go_sem, rdO, restV, upTo, tl6, sets_len, rows_len, bts_pure, grps_pure, sets_pure, rows_pure, phas_pure, eyes_pure, ints_pure, hl_e]
                      · intro k hk
                        have hk6 : k = 0 ∨ k = 1 ∨ k = 2 ∨ k = 3 ∨ k = 4 ∨ k = 5 := by omega
                        rcases hk6 with rfl | rfl | rfl | rfl | rfl | rfl
                        · have q := one0_spec ve.2 1048576 (restV vi.1 (.sl 3 (vg.1.map grpV)) (.sl 1 (sets va.1)) (.sl 1 (rows vb.1)) (.sl 5 (vp.1.map phaV)) (.sl 4 (ve.1.map eyeV)) (upTo 0 0 vw.1) (upTo 0 1 vf.1) (upTo 0 2 vh.1) (upTo 0 3 vlo.1) (upTo 0 4 vhi.1) .nilS) (by simp [restV, upTo, go_sem, grps_pure, sets_pure, rows_pure, phas_pure, eyes_pure, ints_pure]) (by omega)
                          rw [← ew] at q
                          simp (disch := omega) [go_sem, rdO, restV, upTo, tl6]
                          refine callK_ref q [(0, some 0)] [0] [] [] ?_ ?_ ?_ (.inl ⟨rfl, .inl rfl⟩) (fun _ => ?_)
                          · simp [go_sem]
                          · simp [go_sem, rdO, restV, upTo, grps_pure, sets_pure, rows_pure, phas_pure, eyes_pure, ints_pure, bts_pure]
                          · simp [go_sem, rdO, restV]
                          simp (disch := omega) [go_sem, rdO, restV, upTo, tl6]
                          refine round_of 1 (by omega) (by omega) (Le.mk [(0, some 0), (33024, some 33024)] [0, 33024] ⟨rfl, rfl, rfl⟩ ?_ ?_ ?_) <;> simp [go_sem, rdO, restV, upTo, tl6, bts_pure, grps_pure, sets_pure, rows_pure, phas_pure, eyes_pure, ints_pure]
                        · have q := one0_spec vw.2 1048576 (restV vi.1 (.sl 3 (vg.1.map grpV)) (.sl 1 (sets va.1)) (.sl 1 (rows vb.1)) (.sl 5 (vp.1.map phaV)) (.sl 4 (ve.1.map eyeV)) (upTo 1 0 vw.1) (upTo 1 1 vf.1) (upTo 1 2 vh.1) (upTo 1 3 vlo.1) (upTo 1 4 vhi.1) .nilS) (by simp [restV, upTo, go_sem, grps_pure, sets_pure, rows_pure, phas_pure, eyes_pure, ints_pure]) (by omega)
                          rw [← ef] at q
                          simp (disch := omega) [go_sem, rdO, restV, upTo, tl6]
                          refine callK_ref q [(0, some 0)] [0] [] [] ?_ ?_ ?_ (.inl ⟨rfl, .inl rfl⟩) (fun _ => ?_)
                          · simp [go_sem]
                          · simp [go_sem, rdO, restV, upTo, grps_pure, sets_pure, rows_pure, phas_pure, eyes_pure, ints_pure, bts_pure]
                          · simp [go_sem, rdO, restV]
                          simp (disch := omega) [go_sem, rdO, restV, upTo, tl6]
                          refine round_of 2 (by omega) (by omega) (Le.mk [(0, some 0), (33024, some 33024)] [0, 33024] ⟨rfl, rfl, rfl⟩ ?_ ?_ ?_) <;> simp [go_sem, rdO, restV, upTo, tl6, bts_pure, grps_pure, sets_pure, rows_pure, phas_pure, eyes_pure, ints_pure]
                        · have q := one0_spec vf.2 1048576 (restV vi.1 (.sl 3 (vg.1.map grpV)) (.sl 1 (sets va.1)) (.sl 1 (rows vb.1)) (.sl 5 (vp.1.map phaV)) (.sl 4 (ve.1.map eyeV)) (upTo 2 0 vw.1) (upTo 2 1 vf.1) (upTo 2 2 vh.1) (upTo 2 3 vlo.1) (upTo 2 4 vhi.1) .nilS) (by simp [restV, upTo, go_sem, grps_pure, sets_pure, rows_pure, phas_pure, eyes_pure, ints_pure]) (by omega)
                          rw [← eh] at q
                          simp (disch := omega) [go_sem, rdO, restV, upTo, tl6]
                          refine callK_ref q [(0, some 0)] [0] [] [] ?_ ?_ ?_ (.inl ⟨rfl, .inl rfl⟩) (fun _ => ?_)
                          · simp [go_sem]
                          · simp [go_sem, rdO, restV, upTo, grps_pure, sets_pure, rows_pure, phas_pure, eyes_pure, ints_pure, bts_pure]
                          · simp [go_sem, rdO, restV]
                          simp (disch := omega) [go_sem, rdO, restV, upTo, tl6]
                          refine round_of 3 (by omega) (by omega) (Le.mk [(0, some 0), (33024, some 33024)] [0, 33024] ⟨rfl, rfl, rfl⟩ ?_ ?_ ?_) <;> simp [go_sem, rdO, restV, upTo, tl6, bts_pure, grps_pure, sets_pure, rows_pure, phas_pure, eyes_pure, ints_pure]
                        · have q := one0_spec vh.2 1048576 (restV vi.1 (.sl 3 (vg.1.map grpV)) (.sl 1 (sets va.1)) (.sl 1 (rows vb.1)) (.sl 5 (vp.1.map phaV)) (.sl 4 (ve.1.map eyeV)) (upTo 3 0 vw.1) (upTo 3 1 vf.1) (upTo 3 2 vh.1) (upTo 3 3 vlo.1) (upTo 3 4 vhi.1) .nilS) (by simp [restV, upTo, go_sem, grps_pure, sets_pure, rows_pure, phas_pure, eyes_pure, ints_pure]) (by omega)
                          rw [← elo] at q
                          simp (disch := omega) [go_sem, rdO, restV, upTo, tl6]
                          refine callK_ref q [(0, some 0)] [0] [] [] ?_ ?_ ?_ (.inl ⟨rfl, .inl rfl⟩) (fun _ => ?_)
                          · simp [go_sem]
                          · simp [go_sem, rdO, restV, upTo, grps_pure, sets_pure, rows_pure, phas_pure, eyes_pure, ints_pure, bts_pure]
                          · simp [go_sem, rdO, restV]
                          simp (disch := omega) [go_sem, rdO, restV, upTo, tl6]
                          refine round_of 4 (by omega) (by omega) (Le.mk [(0, some 0), (33024, some 33024)] [0, 33024] ⟨rfl, rfl, rfl⟩ ?_ ?_ ?_) <;> simp [go_sem, rdO, restV, upTo, tl6, bts_pure, grps_pure, sets_pure, rows_pure, phas_pure, eyes_pure, ints_pure]
                        · have q := one0_spec vlo.2 1048576 (restV vi.1 (.sl 3 (vg.1.map grpV)) (.sl 1 (sets va.1)) (.sl 1 (rows vb.1)) (.sl 5 (vp.1.map phaV)) (.sl 4 (ve.1.map eyeV)) (upTo 4 0 vw.1) (upTo 4 1 vf.1) (upTo 4 2 vh.1) (upTo 4 3 vlo.1) (upTo 4 4 vhi.1) .nilS) (by simp [restV, upTo, go_sem, grps_pure, sets_pure, rows_pure, phas_pure, eyes_pure, ints_pure]) (by omega)
                          rw [← ehi] at q
                          simp (disch := omega) [go_sem, rdO, restV, upTo, tl6]
                          refine callK_ref q [(0, some 0)] [0] [] [] ?_ ?_ ?_ (.inl ⟨rfl, .inl rfl⟩) (fun _ => ?_)
                          · simp [go_sem]
                          · simp [go_sem, rdO, restV, upTo, grps_pure, sets_pure, rows_pure, phas_pure, eyes_pure, ints_pure, bts_pure]
                          · simp [go_sem, rdO, restV]
                          simp (disch := omega) [go_sem, rdO, restV, upTo, tl6]
                          refine round_of 5 (by omega) (by omega) (Le.mk [(0, some 0), (33024, some 33024)] [0, 33024] ⟨rfl, rfl, rfl⟩ ?_ ?_ ?_) <;> simp [go_sem, rdO, restV, upTo, tl6, bts_pure, grps_pure, sets_pure, rows_pure, phas_pure, eyes_pure, ints_pure]
                        · simp (disch := omega) [go_sem, rdO, restV, upTo, tl6]
                          refine Le.mk [(0, some 0)] [0] ⟨rfl, rfl, rfl⟩ ?_ ?_ ?_ <;> simp [go_sem, rdO, restV, upTo, tl6, bts_pure, grps_pure, sets_pure, rows_pure, phas_pure, eyes_pure, ints_pure]
end Go.Proofs.YtdeionjkcmpnpaaGreatDoor
