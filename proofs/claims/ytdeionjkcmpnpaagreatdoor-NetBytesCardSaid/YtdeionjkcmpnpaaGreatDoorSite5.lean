
/- The reference stoplineref05's reader: a site. -/
import Derived.Test.YtdeionjkcmpnpaaGreatDoorRd5
set_option linter.unusedSimpArgs false
set_option linter.unusedVariables false
namespace Go.Proofs.YtdeionjkcmpnpaaGreatDoor
open Go.AM Go.RowKit
set_option maxRecDepth 100000

theorem sets_app5 (a b : List Nat) : sets (a ++ b) = sets a ++ sets b := by simp [sets]
theorem rows_app5 (a b : List (List Int)) : rows (a ++ b) = rows a ++ rows b := by simp [rows]
theorem sets_nil5 : sets [] = [] := rfl
theorem rows_nil5 : rows [] = [] := rfl
def sb5 (i : Int) (g a b p e : V) : AM.Obj := ⟨.box, 87, 12, [.agg [.int .i64 i, g, a, b, p, e, .int .i64 0, .int .i64 0, .int .i64 0, .int .i64 0, .int .i64 0, .nilS]]⟩
def zb5 : AM.Obj := sb5 0 .nilS .nilS .nilS .nilS .nilS
def hp5 (i : Int) (g a b p e : V) (s : RdS) : List (Nat × AM.Obj) := [(80, sb5 i g a b p e), (16, zb5), (0, rq s)]
set_option maxHeartbeats 16000000 in
theorem r5site_spec (s : RdS) : FnR Tryz.prog 99 [rq s] [.ptr 0 1 0 0] [rq (qPl s).2] (sitV (qSit s)) := by
  have hsv : sitV (qSit s) = .agg [.int .i64 (qI s).1, .sl 3 ((qG s).1.map grpV), .sl 1 (sets (qA s).1), .sl 1 (rows (qB s).1), .sl 5 ((qP s).1.map phaV), .sl 4 ((qE s).1.map eyeV), .int .i64 (qW s).1, .int .i64 (qF s).1, .int .i64 (qH s).1, .int .i64 (qLo s).1, .int .i64 (qHi s).1, .sl 3 ((qPl s).1.map plnV)] := by simp only [sitV, qSit]
  rw [hsv]
  clear hsv
  have eI : qI s = oneF s 65535 := rfl
  have eN : qN s = oneF (qI s).2 16 := rfl
  have eG : qG s = repQ grpQ (qN s).1.toNat (qN s).2 := rfl
  have eA : qA s = repQ apR (qN s).1.toNat (qG s).2 := rfl
  have eB : qB s = repQ (timesR (qN s).1.toNat) (qN s).1.toNat (qA s).2 := rfl
  have eMp : qMp s = oneF (qB s).2 8 := rfl
  have eP : qP s = repQ phaR (qMp s).1.toNat (qMp s).2 := rfl
  have eMe : qMe s = oneF (qP s).2 24 := rfl
  have eE : qE s = repQ eyeR (qMe s).1.toNat (qMe s).2 := rfl
  have eW : qW s = oneF (qE s).2 1048576 := rfl
  have eF : qF s = oneF (qW s).2 1048576 := rfl
  have eH : qH s = oneF (qF s).2 1048576 := rfl
  have eLo : qLo s = oneF (qH s).2 1048576 := rfl
  have eHi : qHi s = oneF (qLo s).2 1048576 := rfl
  have ePl : qPl s = plansQ (qHi s).2 := rfl
  generalize qPl s = vPl at *
  generalize qHi s = vHi at *
  generalize qLo s = vLo at *
  generalize qH s = vH at *
  generalize qF s = vF at *
  generalize qW s = vW at *
  generalize qE s = vE at *
  generalize qMe s = vMe at *
  generalize qP s = vP at *
  generalize qMp s = vMp at *
  generalize qB s = vB at *
  generalize qA s = vA at *
  generalize qG s = vG at *
  generalize qN s = vN at *
  generalize qI s = vI at *
  have qI := r5num_spec s 65535 (by omega)
  rw [← eI] at qI
  have hI := oneF_in s (most := 65535) (by omega)
  rw [← eI] at hI
  have qN := r5num_spec vI.2 16 (by omega)
  rw [← eN] at qN
  have hN := oneF_in vI.2 (most := 16) (by omega)
  rw [← eN] at hN
  obtain ⟨N, hN'⟩ := Int.eq_ofNat_of_zero_le hN.1
  rw [hN', Int.toNat_natCast] at eG eA eB
  rw [hN'] at hN
  have qMp := r5num_spec vB.2 8 (by omega)
  rw [← eMp] at qMp
  have hMp := oneF_in vB.2 (most := 8) (by omega)
  rw [← eMp] at hMp
  obtain ⟨M, hM'⟩ := Int.eq_ofNat_of_zero_le hMp.1
  rw [hM', Int.toNat_natCast] at eP
  rw [hM'] at hMp
  have qMe := r5num_spec vP.2 24 (by omega)
  rw [← eMe] at qMe
  have hMe := oneF_in vP.2 (most := 24) (by omega)
  rw [← eMe] at hMe
  obtain ⟨K, hK'⟩ := Int.eq_ofNat_of_zero_le hMe.1
  rw [hK', Int.toNat_natCast] at eE
  rw [hK'] at hMe
  have qW := r5num_spec vE.2 1048576 (by omega)
  rw [← eW] at qW
  have qF := r5num_spec vW.2 1048576 (by omega)
  rw [← eF] at qF
  have qH := r5num_spec vF.2 1048576 (by omega)
  rw [← eH] at qH
  have qLo := r5num_spec vH.2 1048576 (by omega)
  rw [← eLo] at qLo
  have qHi := r5num_spec vLo.2 1048576 (by omega)
  rw [← eHi] at qHi
  have qPl := r5plans_spec vHi.2
  rw [← ePl] at qPl
  refine fnR_of mixed Tryz.func99 rfl rfl (by simp [Tryz.ntmps99]) (by simp) fun hwf E => ?_
  clear hwf
  simp (disch := omega) [Tryz.ntmps99, go_sem, rq, hN', hM', hK', sb5, zb5, hp5]
  refine callK_ref qI [(0, some 0)] [0] [] [] ?_ ?_ ?_ (.inl ⟨rfl, .inl rfl⟩) (fun _ => ?_)
  · simp [go_sem, rq, hN', hM', hK', sb5, zb5, hp5]
  · simp [go_sem, rq, hN', hM', hK', sb5, zb5, hp5]
  · simp [go_sem, rq, hN', hM', hK', sb5, zb5, hp5]
  simp (disch := omega) [go_sem, rq, hN', hM', hK', sb5, zb5, hp5]
  refine callK_ref qN [(0, some 0)] [0] [] [] ?_ ?_ ?_ (.inl ⟨rfl, .inl rfl⟩) (fun _ => ?_)
  · simp [go_sem, rq, hN', hM', hK', sb5, zb5, hp5]
  · simp [go_sem, rq, hN', hM', hK', sb5, zb5, hp5]
  · simp [go_sem, rq, hN', hM', hK', sb5, zb5, hp5]
  simp (disch := omega) [go_sem, rq, hN', hM', hK', sb5, zb5, hp5]
  refine awz_loop mixed (fun k : Nat => ⟨[(5, .int .i64 k), (4, .int .i64 N), (3, .ptr 80 1 0 0), (2, .ptr 16 1 0 0), (0, .ptr 0 1 0 0)], (1001, ⟨.arr, 148, 3, (repQ grpQ k vN.2).1.map grpV⟩) :: hp5 vI.1 (.obj 1001 k) .nilS .nilS .nilS .nilS (repQ grpQ k vN.2).2, 1024, [], 186, 1, []⟩) (fun k => k ≤ N ∧ (repQ grpQ k vN.2).1.length = k) (fun k => N - k) 0 ?_ ?_ ?_
  · exact ⟨by omega, rfl⟩
  · refine Le.mk [(0, some 0), (16, some 16), (80, some 80), (1001, none)] [0, 16, 80] ⟨rfl, rfl, rfl⟩ ?_ ?_ ?_ <;> simp [go_sem, rq, hN', hM', hK', sb5, zb5, hp5, repQ, sets_nil5, rows_nil5]
  · rintro k ⟨hk, hlk⟩
    obtain ⟨g1, g2⟩ := rq_ok (f := grpQ) hk hlk
    by_cases hend : k = N ∨ (repQ grpQ k vN.2).2.bad = true
    · have hfin : (repQ grpQ k vN.2) = vG := by
        rw [eG]
        rcases hend with h | h
        · rw [h]
        · exact (g1 h).symm
      clear g1 g2
      rw [hfin] at hlk
      have hlg := hlk
      have hcond : (decide (k < N) && !vG.2.bad) = false := by
        rw [hfin] at hend
        rcases hend with h | h <;> simp [h]
      skip
      simp (disch := omega) [go_sem, rq, hN', hM', hK', sb5, zb5, hp5, hfin, hcond]
      refine awz_loop mixed (fun k : Nat => ⟨[(7, .int .i64 k), (4, .int .i64 N), (3, .ptr 80 1 0 0), (2, .ptr 16 1 0 0), (0, .ptr 0 1 0 0)], (1002, ⟨.arr, 149, 1, sets (repQ apR k vG.2).1⟩) :: hp5 vI.1 (.sl 3 (vG.1.map grpV)) (.obj 1002 k) .nilS .nilS .nilS (repQ apR k vG.2).2, 2048, [], 186, 1, []⟩) (fun k => k ≤ N ∧ (repQ apR k vG.2).1.length = k) (fun k => N - k) 0 ?_ ?_ ?_
      · exact ⟨by omega, rfl⟩
      · refine Le.mk [(0, some 0), (16, some 16), (80, some 80), (1002, none)] [0, 16, 80] ⟨rfl, rfl, rfl⟩ ?_ ?_ ?_ <;> simp [go_sem, rq, hN', hM', hK', sb5, zb5, hp5, repQ, sets_nil5, rows_nil5, hlg]
      · rintro k ⟨hk, hlk⟩
        obtain ⟨g1, g2⟩ := rq_ok (f := apR) hk hlk
        by_cases hend : k = N ∨ (repQ apR k vG.2).2.bad = true
        · have hfin : (repQ apR k vG.2) = vA := by
            rw [eA]
            rcases hend with h | h
            · rw [h]
            · exact (g1 h).symm
          clear g1 g2
          rw [hfin] at hlk
          have hla := hlk
          have hcond : (decide (k < N) && !vA.2.bad) = false := by
            rw [hfin] at hend
            rcases hend with h | h <;> simp [h]
          skip
          simp (disch := omega) [go_sem, rq, hN', hM', hK', sb5, zb5, hp5, hfin, hcond]
          refine awz_loop mixed (fun k : Nat => ⟨[(8, .int .i64 k), (4, .int .i64 N), (3, .ptr 80 1 0 0), (2, .ptr 16 1 0 0), (0, .ptr 0 1 0 0)], (1003, ⟨.arr, 52, 1, rows (repQ (timesR N) k vA.2).1⟩) :: hp5 vI.1 (.sl 3 (vG.1.map grpV)) (.sl 1 (sets vA.1)) (.obj 1003 k) .nilS .nilS (repQ (timesR N) k vA.2).2, 4096, [], 186, 1, []⟩) (fun k => k ≤ N ∧ (repQ (timesR N) k vA.2).1.length = k) (fun k => N - k) 0 ?_ ?_ ?_
          · exact ⟨by omega, rfl⟩
          · refine Le.mk [(0, some 0), (16, some 16), (80, some 80), (1003, none)] [0, 16, 80] ⟨rfl, rfl, rfl⟩ ?_ ?_ ?_ <;> simp [go_sem, rq, hN', hM', hK', sb5, zb5, hp5, repQ, sets_nil5, rows_nil5, hla]
          · rintro k ⟨hk, hlk⟩
            obtain ⟨g1, g2⟩ := rq_ok (f := (timesR N)) hk hlk
            by_cases hend : k = N ∨ (repQ (timesR N) k vA.2).2.bad = true
            · have hfin : (repQ (timesR N) k vA.2) = vB := by
                rw [eB]
                rcases hend with h | h
                · rw [h]
                · exact (g1 h).symm
              clear g1 g2
              rw [hfin] at hlk
              have hlb := hlk
              have hcond : (decide (k < N) && !vB.2.bad) = false := by
                rw [hfin] at hend
                rcases hend with h | h <;> simp [h]
              skip
              simp (disch := omega) [go_sem, rq, hN', hM', hK', sb5, zb5, hp5, hfin, hcond]
              refine callK_ref qMp [(0, some 0)] [0] [] [] ?_ ?_ ?_ (.inl ⟨rfl, .inl rfl⟩) (fun _ => ?_)
              · simp [go_sem, rq, hN', hM', hK', sb5, zb5, hp5]
              · simp [go_sem, rq, hN', hM', hK', sb5, zb5, hp5]
              · simp [go_sem, rq, hN', hM', hK', sb5, zb5, hp5]
              simp (disch := omega) [go_sem, rq, hN', hM', hK', sb5, zb5, hp5]
              refine awz_loop mixed (fun k : Nat => ⟨[(12, .int .i64 k), (11, .int .i64 M), (3, .ptr 80 1 0 0), (2, .ptr 16 1 0 0), (0, .ptr 0 1 0 0)], (1004, ⟨.arr, 151, 5, (repQ phaR k vMp.2).1.map phaV⟩) :: hp5 vI.1 (.sl 3 (vG.1.map grpV)) (.sl 1 (sets vA.1)) (.sl 1 (rows vB.1)) (.obj 1004 k) .nilS (repQ phaR k vMp.2).2, 8192, [], 186, 1, []⟩) (fun k => k ≤ M ∧ (repQ phaR k vMp.2).1.length = k) (fun k => M - k) 0 ?_ ?_ ?_
              · exact ⟨by omega, rfl⟩
              · refine Le.mk [(0, some 0), (16, some 16), (80, some 80), (1004, none)] [0, 16, 80] ⟨rfl, rfl, rfl⟩ ?_ ?_ ?_ <;> simp [go_sem, rq, hN', hM', hK', sb5, zb5, hp5, repQ, sets_nil5, rows_nil5, hlb]
              · rintro k ⟨hk, hlk⟩
                obtain ⟨g1, g2⟩ := rq_ok (f := phaR) hk hlk
                by_cases hend : k = M ∨ (repQ phaR k vMp.2).2.bad = true
                · have hfin : (repQ phaR k vMp.2) = vP := by
                    rw [eP]
                    rcases hend with h | h
                    · rw [h]
                    · exact (g1 h).symm
                  clear g1 g2
                  rw [hfin] at hlk
                  have hlp := hlk
                  have hcond : (decide (k < M) && !vP.2.bad) = false := by
                    rw [hfin] at hend
                    rcases hend with h | h <;> simp [h]
                  skip
                  simp (disch := omega) [go_sem, rq, hN', hM', hK', sb5, zb5, hp5, hfin, hcond]
                  refine callK_ref qMe [(0, some 0)] [0] [] [] ?_ ?_ ?_ (.inl ⟨rfl, .inl rfl⟩) (fun _ => ?_)
                  · simp [go_sem, rq, hN', hM', hK', sb5, zb5, hp5]
                  · simp [go_sem, rq, hN', hM', hK', sb5, zb5, hp5]
                  · simp [go_sem, rq, hN', hM', hK', sb5, zb5, hp5]
                  simp (disch := omega) [go_sem, rq, hN', hM', hK', sb5, zb5, hp5]
                  refine awz_loop mixed (fun k : Nat => ⟨[(15, .int .i64 k), (14, .int .i64 K), (3, .ptr 80 1 0 0), (2, .ptr 16 1 0 0), (0, .ptr 0 1 0 0)], (1005, ⟨.arr, 154, 4, (repQ eyeR k vMe.2).1.map eyeV⟩) :: hp5 vI.1 (.sl 3 (vG.1.map grpV)) (.sl 1 (sets vA.1)) (.sl 1 (rows vB.1)) (.sl 5 (vP.1.map phaV)) (.obj 1005 k) (repQ eyeR k vMe.2).2, 16384, [], 186, 1, []⟩) (fun k => k ≤ K ∧ (repQ eyeR k vMe.2).1.length = k) (fun k => K - k) 0 ?_ ?_ ?_
                  · exact ⟨by omega, rfl⟩
                  · refine Le.mk [(0, some 0), (16, some 16), (80, some 80), (1005, none)] [0, 16, 80] ⟨rfl, rfl, rfl⟩ ?_ ?_ ?_ <;> simp [go_sem, rq, hN', hM', hK', sb5, zb5, hp5, repQ, sets_nil5, rows_nil5, hlp]
                  · rintro k ⟨hk, hlk⟩
                    obtain ⟨g1, g2⟩ := rq_ok (f := eyeR) hk hlk
                    by_cases hend : k = K ∨ (repQ eyeR k vMe.2).2.bad = true
                    · have hfin : (repQ eyeR k vMe.2) = vE := by
                        rw [eE]
                        rcases hend with h | h
                        · rw [h]
                        · exact (g1 h).symm
                      clear g1 g2
                      rw [hfin] at hlk
                      have hle := hlk
                      have hcond : (decide (k < K) && !vE.2.bad) = false := by
                        rw [hfin] at hend
                        rcases hend with h | h <;> simp [h]
                      skip
                      simp (disch := omega) [go_sem, rq, hN', hM', hK', sb5, zb5, hp5, hfin, hcond]
                      refine callK_ref qW [(0, some 0)] [0] [] [] ?_ ?_ ?_ (.inl ⟨rfl, .inl rfl⟩) (fun _ => ?_)
                      · simp [go_sem, rq, hN', hM', hK', sb5, zb5, hp5]
                      · simp [go_sem, rq, hN', hM', hK', sb5, zb5, hp5]
                      · simp [go_sem, rq, hN', hM', hK', sb5, zb5, hp5]
                      simp (disch := omega) [go_sem, rq, hN', hM', hK', sb5, zb5, hp5]
                      refine callK_ref qF [(0, some 0)] [0] [] [] ?_ ?_ ?_ (.inl ⟨rfl, .inl rfl⟩) (fun _ => ?_)
                      · simp [go_sem, rq, hN', hM', hK', sb5, zb5, hp5]
                      · simp [go_sem, rq, hN', hM', hK', sb5, zb5, hp5]
                      · simp [go_sem, rq, hN', hM', hK', sb5, zb5, hp5]
                      simp (disch := omega) [go_sem, rq, hN', hM', hK', sb5, zb5, hp5]
                      refine callK_ref qH [(0, some 0)] [0] [] [] ?_ ?_ ?_ (.inl ⟨rfl, .inl rfl⟩) (fun _ => ?_)
                      · simp [go_sem, rq, hN', hM', hK', sb5, zb5, hp5]
                      · simp [go_sem, rq, hN', hM', hK', sb5, zb5, hp5]
                      · simp [go_sem, rq, hN', hM', hK', sb5, zb5, hp5]
                      simp (disch := omega) [go_sem, rq, hN', hM', hK', sb5, zb5, hp5]
                      refine callK_ref qLo [(0, some 0)] [0] [] [] ?_ ?_ ?_ (.inl ⟨rfl, .inl rfl⟩) (fun _ => ?_)
                      · simp [go_sem, rq, hN', hM', hK', sb5, zb5, hp5]
                      · simp [go_sem, rq, hN', hM', hK', sb5, zb5, hp5]
                      · simp [go_sem, rq, hN', hM', hK', sb5, zb5, hp5]
                      simp (disch := omega) [go_sem, rq, hN', hM', hK', sb5, zb5, hp5]
                      refine callK_ref qHi [(0, some 0)] [0] [] [] ?_ ?_ ?_ (.inl ⟨rfl, .inl rfl⟩) (fun _ => ?_)
                      · simp [go_sem, rq, hN', hM', hK', sb5, zb5, hp5]
                      · simp [go_sem, rq, hN', hM', hK', sb5, zb5, hp5]
                      · simp [go_sem, rq, hN', hM', hK', sb5, zb5, hp5]
                      simp (disch := omega) [go_sem, rq, hN', hM', hK', sb5, zb5, hp5]
                      refine callK_ref qPl [(0, some 0)] [0] [] [] ?_ ?_ ?_ (.inl ⟨rfl, .inl rfl⟩) (fun _ => ?_)
                      · simp [go_sem, rq, hN', hM', hK', sb5, zb5, hp5]
                      · simp [go_sem, rq, hN', hM', hK', sb5, zb5, hp5]
                      · simp [go_sem, rq, hN', hM', hK', sb5, zb5, hp5]
                      simp (disch := omega) [go_sem, rq, hN', hM', hK', sb5, zb5, hp5]
                      refine Le.mk [(0, some 0)] [0] ⟨rfl, rfl, rfl⟩ ?_ ?_ ?_ <;> simp [go_sem, rq, hN', hM', hK', sb5, zb5, hp5, hlk]
                    · have hd : k < K := by omega
                      have hb : (repQ eyeR k vMe.2).2.bad = false := by cases h : (repQ eyeR k vMe.2).2.bad with | false => rfl | true => exact absurd (.inr h) hend
                      obtain ⟨e1, e2⟩ := g2 hb
                      clear g1 g2 hend
                      generalize hst : (repQ eyeR k vMe.2).2 = st at *
                      generalize hL : (repQ eyeR k vMe.2).1 = L at *
                      have e11 : (repQ eyeR (k + 1) vMe.2).1.map eyeV = L.map eyeV ++ [eyeV ⟨(oneF st 8).1, (oneF (oneF st 8).2 1048576).1, (oneF (oneF (oneF st 8).2 1048576).2 1048576).1, (oneF (oneF (oneF (oneF st 8).2 1048576).2 1048576).2 64).1⟩] := by rw [e1]; simp [eyeR]
                      have e12 : (repQ eyeR (k + 1) vMe.2).2 = (oneF (oneF (oneF (oneF st 8).2 1048576).2 1048576).2 64).2 := by rw [e1]; rfl
                      clear e1
                      have q0 := r5num_spec st 8 (by omega)
                      have b0 := oneF_in st (most := 8) (by omega)
                      generalize oneF st 8 = x0 at *
                      have q1 := r5num_spec x0.2 1048576 (by omega)
                      have b1 := oneF_in x0.2 (most := 1048576) (by omega)
                      generalize oneF x0.2 1048576 = x1 at *
                      have q2 := r5num_spec x1.2 1048576 (by omega)
                      have b2 := oneF_in x1.2 (most := 1048576) (by omega)
                      generalize oneF x1.2 1048576 = x2 at *
                      have q3 := r5num_spec x2.2 64 (by omega)
                      have b3 := oneF_in x2.2 (most := 64) (by omega)
                      generalize oneF x2.2 64 = x3 at *
                      simp only [eyeV] at e11
                      simp (disch := omega) [go_sem, rq, hN', hM', hK', sb5, zb5, hp5, rq, hd, hb]
                      refine callK_ref q0 [(0, some 0)] [0] [] [] ?_ ?_ ?_ (.inl ⟨rfl, .inl rfl⟩) (fun _ => ?_)
                      · simp [go_sem, rq, hN', hM', hK', sb5, zb5, hp5, rq, hb]
                      · simp [go_sem, rq, hN', hM', hK', sb5, zb5, hp5, rq, hb]
                      · simp [go_sem, rq, hN', hM', hK', sb5, zb5, hp5, rq, hb]
                      simp (disch := omega) [go_sem, rq, hN', hM', hK', sb5, zb5, hp5, rq, hb]
                      refine callK_ref q1 [(0, some 0)] [0] [] [] ?_ ?_ ?_ (.inl ⟨rfl, .inl rfl⟩) (fun _ => ?_)
                      · simp [go_sem, rq, hN', hM', hK', sb5, zb5, hp5, rq, hb]
                      · simp [go_sem, rq, hN', hM', hK', sb5, zb5, hp5, rq, hb]
                      · simp [go_sem, rq, hN', hM', hK', sb5, zb5, hp5, rq, hb]
                      simp (disch := omega) [go_sem, rq, hN', hM', hK', sb5, zb5, hp5, rq, hb]
                      refine callK_ref q2 [(0, some 0)] [0] [] [] ?_ ?_ ?_ (.inl ⟨rfl, .inl rfl⟩) (fun _ => ?_)
                      · simp [go_sem, rq, hN', hM', hK', sb5, zb5, hp5, rq, hb]
                      · simp [go_sem, rq, hN', hM', hK', sb5, zb5, hp5, rq, hb]
                      · simp [go_sem, rq, hN', hM', hK', sb5, zb5, hp5, rq, hb]
                      simp (disch := omega) [go_sem, rq, hN', hM', hK', sb5, zb5, hp5, rq, hb]
                      refine callK_ref q3 [(0, some 0)] [0] [] [] ?_ ?_ ?_ (.inl ⟨rfl, .inl rfl⟩) (fun _ => ?_)
                      · simp [go_sem, rq, hN', hM', hK', sb5, zb5, hp5, rq, hb]
                      · simp [go_sem, rq, hN', hM', hK', sb5, zb5, hp5, rq, hb]
                      · simp [go_sem, rq, hN', hM', hK', sb5, zb5, hp5, rq, hb]
                      simp (disch := omega) [go_sem, rq, hN', hM', hK', sb5, zb5, hp5, rq, hb]
                      refine ⟨⟨by omega, by omega, by omega⟩, ?_⟩
                      refine round_of (k + 1) (⟨by omega, e2⟩) (by omega) (Le.mk [(0, some 0), (16, some 16), (80, some 80), (1005, some 1005)] [0, 16, 80, 1005] ⟨rfl, rfl, rfl⟩ ?_ ?_ ?_) <;> simp [go_sem, rq, hN', hM', hK', sb5, zb5, hp5, rq, e11, e12, hlk]
                · have hd : k < M := by omega
                  have hb : (repQ phaR k vMp.2).2.bad = false := by cases h : (repQ phaR k vMp.2).2.bad with | false => rfl | true => exact absurd (.inr h) hend
                  obtain ⟨e1, e2⟩ := g2 hb
                  clear g1 g2 hend
                  generalize hst : (repQ phaR k vMp.2).2 = st at *
                  generalize hL : (repQ phaR k vMp.2).1 = L at *
                  have e11 : (repQ phaR (k + 1) vMp.2).1.map phaV = L.map phaV ++ [phaV ⟨(oneF st 65536).1.toNat, (oneF (oneF st 65536).2 1048576).1, (oneF (oneF (oneF st 65536).2 1048576).2 1048576).1, (oneF (oneF (oneF (oneF st 65536).2 1048576).2 1048576).2 1048576).1, (oneF (oneF (oneF (oneF (oneF st 65536).2 1048576).2 1048576).2 1048576).2 1).1 == 1⟩] := by rw [e1]; simp [phaR]
                  have e12 : (repQ phaR (k + 1) vMp.2).2 = (oneF (oneF (oneF (oneF (oneF st 65536).2 1048576).2 1048576).2 1048576).2 1).2 := by rw [e1]; rfl
                  clear e1
                  have q0 := r5num_spec st 65536 (by omega)
                  have b0 := oneF_in st (most := 65536) (by omega)
                  generalize oneF st 65536 = x0 at *
                  have q1 := r5num_spec x0.2 1048576 (by omega)
                  have b1 := oneF_in x0.2 (most := 1048576) (by omega)
                  generalize oneF x0.2 1048576 = x1 at *
                  have q2 := r5num_spec x1.2 1048576 (by omega)
                  have b2 := oneF_in x1.2 (most := 1048576) (by omega)
                  generalize oneF x1.2 1048576 = x2 at *
                  have q3 := r5num_spec x2.2 1048576 (by omega)
                  have b3 := oneF_in x2.2 (most := 1048576) (by omega)
                  generalize oneF x2.2 1048576 = x3 at *
                  have q4 := r5num_spec x3.2 1 (by omega)
                  have b4 := oneF_in x3.2 (most := 1) (by omega)
                  generalize oneF x3.2 1 = x4 at *
                  obtain ⟨y, hy⟩ := Int.eq_ofNat_of_zero_le b0.1
                  rw [hy, Int.toNat_natCast] at e11
                  rw [hy] at b0 q0
                  have hw : IntKind.u32.wrap (y : Int) = (y : Int) := u32_wrap (by omega) (by omega)
                  simp only [phaV] at e11
                  simp (disch := omega) [go_sem, rq, hN', hM', hK', sb5, zb5, hp5, hw, hd, hb]
                  refine callK_ref q0 [(0, some 0)] [0] [] [] ?_ ?_ ?_ (.inl ⟨rfl, .inl rfl⟩) (fun _ => ?_)
                  · simp [go_sem, rq, hN', hM', hK', sb5, zb5, hp5, hw, hb]
                  · simp [go_sem, rq, hN', hM', hK', sb5, zb5, hp5, hw, hb]
                  · simp [go_sem, rq, hN', hM', hK', sb5, zb5, hp5, hw, hb]
                  simp (disch := omega) [go_sem, rq, hN', hM', hK', sb5, zb5, hp5, hw, hb]
                  refine callK_ref q1 [(0, some 0)] [0] [] [] ?_ ?_ ?_ (.inl ⟨rfl, .inl rfl⟩) (fun _ => ?_)
                  · simp [go_sem, rq, hN', hM', hK', sb5, zb5, hp5, hw, hb]
                  · simp [go_sem, rq, hN', hM', hK', sb5, zb5, hp5, hw, hb]
                  · simp [go_sem, rq, hN', hM', hK', sb5, zb5, hp5, hw, hb]
                  simp (disch := omega) [go_sem, rq, hN', hM', hK', sb5, zb5, hp5, hw, hb]
                  refine callK_ref q2 [(0, some 0)] [0] [] [] ?_ ?_ ?_ (.inl ⟨rfl, .inl rfl⟩) (fun _ => ?_)
                  · simp [go_sem, rq, hN', hM', hK', sb5, zb5, hp5, hw, hb]
                  · simp [go_sem, rq, hN', hM', hK', sb5, zb5, hp5, hw, hb]
                  · simp [go_sem, rq, hN', hM', hK', sb5, zb5, hp5, hw, hb]
                  simp (disch := omega) [go_sem, rq, hN', hM', hK', sb5, zb5, hp5, hw, hb]
                  refine callK_ref q3 [(0, some 0)] [0] [] [] ?_ ?_ ?_ (.inl ⟨rfl, .inl rfl⟩) (fun _ => ?_)
                  · simp [go_sem, rq, hN', hM', hK', sb5, zb5, hp5, hw, hb]
                  · simp [go_sem, rq, hN', hM', hK', sb5, zb5, hp5, hw, hb]
                  · simp [go_sem, rq, hN', hM', hK', sb5, zb5, hp5, hw, hb]
                  simp (disch := omega) [go_sem, rq, hN', hM', hK', sb5, zb5, hp5, hw, hb]
                  refine callK_ref q4 [(0, some 0)] [0] [] [] ?_ ?_ ?_ (.inl ⟨rfl, .inl rfl⟩) (fun _ => ?_)
                  · simp [go_sem, rq, hN', hM', hK', sb5, zb5, hp5, hw, hb]
                  · simp [go_sem, rq, hN', hM', hK', sb5, zb5, hp5, hw, hb]
                  · simp [go_sem, rq, hN', hM', hK', sb5, zb5, hp5, hw, hb]
                  simp (disch := omega) [go_sem, rq, hN', hM', hK', sb5, zb5, hp5, hw, hb]
                  refine ⟨⟨by omega, by omega, by omega⟩, ?_⟩
                  refine round_of (k + 1) (⟨by omega, e2⟩) (by omega) (Le.mk [(0, some 0), (16, some 16), (80, some 80), (1004, some 1004)] [0, 16, 80, 1004] ⟨rfl, rfl, rfl⟩ ?_ ?_ ?_) <;> simp [go_sem, rq, hN', hM', hK', sb5, zb5, hp5, hw, e11, e12, hlk]
            · have hd : k < N := by omega
              have hb : (repQ (timesR N) k vA.2).2.bad = false := by cases h : (repQ (timesR N) k vA.2).2.bad with | false => rfl | true => exact absurd (.inr h) hend
              obtain ⟨e1, e2⟩ := g2 hb
              clear g1 g2 hend
              have e11 : rows (repQ (timesR N) (k + 1) vA.2).1 = rows (repQ (timesR N) k vA.2).1 ++ [.sl 1 (ints (timesR N (repQ (timesR N) k vA.2).2).1)] := by rw [e1]; simp [rows]
              have e12 : (repQ (timesR N) (k + 1) vA.2).2 = (timesR N (repQ (timesR N) k vA.2).2).2 := by rw [e1]
              clear e1
              generalize hst : (repQ (timesR N) k vA.2).2 = st at *
              generalize hL : (repQ (timesR N) k vA.2).1 = L at *
              simp (disch := omega) [go_sem, rq, hN', hM', hK', sb5, zb5, hp5, hd, hb]
              refine awz_loop mixed (fun j : Nat => ⟨[(10, .int .i64 j), (9, .obj 1006 j), (8, .int .i64 k), (4, .int .i64 N), (3, .ptr 80 1 0 0), (2, .ptr 16 1 0 0), (0, .ptr 0 1 0 0)], (1006, ⟨.arr, 3, 1, ints (timesR j st).1⟩) :: (1003, ⟨.arr, 52, 1, rows L⟩) :: hp5 vI.1 (.sl 3 (vG.1.map grpV)) (.sl 1 (sets vA.1)) (.obj 1003 k) .nilS .nilS (timesR j st).2, 8192, [], 186, 1, []⟩) (fun j => j ≤ N) (fun j => N - j) 0 ?_ ?_ ?_
              · omega
              · have ht0 : timesR 0 st = ([], st) := rfl
                refine Le.mk [(0, some 0), (16, some 16), (80, some 80), (1003, some 1003), (1006, none)] [0, 16, 80, 1003] ⟨rfl, rfl, rfl⟩ ?_ ?_ ?_ <;> simp [go_sem, rq, hN', hM', hK', sb5, zb5, hp5, ht0, ints_nil, hb]
              · intro j hj
                have hlj : (timesR j st).1.length = j := repF_len _ _ _
                have q5 := r5num_spec (timesR j st).2 1048576 (by omega)
                have f1 : timesR (j + 1) st = ((timesR j st).1 ++ [(oneF (timesR j st).2 1048576).1], (oneF (timesR j st).2 1048576).2) := repF_snoc _ _ _
                have f4 : ints (timesR (j + 1) st).1 = ints (timesR j st).1 ++ [.int .i64 (oneF (timesR j st).2 1048576).1] := by rw [f1]; simp [ints]
                have f5 : (timesR (j + 1) st).2 = (oneF (timesR j st).2 1048576).2 := by rw [f1]
                clear f1
                simp (disch := omega) [go_sem, rq, hN', hM', hK', sb5, zb5, hp5]
                refine br_of (fun hj2 => ?_) (fun hj2 => ?_) <;> simp at hj2
                · simp (disch := omega) [go_sem, rq, hN', hM', hK', sb5, zb5, hp5]
                  refine callK_ref q5 [(0, some 0)] [0] [] [] ?_ ?_ ?_ (.inl ⟨rfl, .inl rfl⟩) (fun _ => ?_)
                  · simp [go_sem, rq, hN', hM', hK', sb5, zb5, hp5]
                  · simp [go_sem, rq, hN', hM', hK', sb5, zb5, hp5]
                  · simp [go_sem, rq, hN', hM', hK', sb5, zb5, hp5]
                  simp (disch := omega) [go_sem, rq, hN', hM', hK', sb5, zb5, hp5]
                  refine ⟨⟨by omega, by omega, by omega⟩, ?_⟩
                  refine round_of (j + 1) (by omega) (by omega) (Le.mk [(0, some 0), (16, some 16), (80, some 80), (1003, some 1003), (1006, some 1006)] [0, 16, 80, 1003, 1006] ⟨rfl, rfl, rfl⟩ ?_ ?_ ?_) <;> simp [go_sem, rq, hN', hM', hK', sb5, zb5, hp5, f4, f5]
                · have hjn : j = N := by omega
                  subst hjn
                  simp (disch := omega) [go_sem, rq, hN', hM', hK', sb5, zb5, hp5]
                  refine ⟨⟨by omega, by omega, by omega⟩, ?_⟩
                  refine round_of (k + 1) (⟨by omega, e2⟩) (by omega) (Le.mk [(0, some 0), (16, some 16), (80, some 80), (1003, some 1003)] [0, 16, 80, 1003] ⟨rfl, rfl, rfl⟩ ?_ ?_ ?_) <;> simp [go_sem, rq, hN', hM', hK', sb5, zb5, hp5, e11, e12, hlj]
                  exact vsLe_append (vsLe_self _ (rows_pure _)) (by simp [go_sem, hlj])
        · have hd : k < N := by omega
          have hb : (repQ apR k vG.2).2.bad = false := by cases h : (repQ apR k vG.2).2.bad with | false => rfl | true => exact absurd (.inr h) hend
          obtain ⟨e1, e2⟩ := g2 hb
          clear g1 g2 hend
          generalize hst : (repQ apR k vG.2).2 = st at *
          generalize hL : (repQ apR k vG.2).1 = L at *
          have e11 : sets (repQ apR (k + 1) vG.2).1 = sets L ++ [.int .u32 (((oneF st 65536).1.toNat : Nat) : Int)] := by rw [e1]; simp [sets, apR]
          have e12 : (repQ apR (k + 1) vG.2).2 = (oneF st 65536).2 := by rw [e1]; rfl
          clear e1
          have q0 := r5num_spec st 65536 (by omega)
          have b0 := oneF_in st (most := 65536) (by omega)
          generalize oneF st 65536 = x0 at *
          obtain ⟨y, hy⟩ := Int.eq_ofNat_of_zero_le b0.1
          rw [hy, Int.toNat_natCast] at e11
          rw [hy] at b0 q0
          have hw : IntKind.u32.wrap (y : Int) = (y : Int) := u32_wrap (by omega) (by omega)
          skip
          simp (disch := omega) [go_sem, rq, hN', hM', hK', sb5, zb5, hp5, hw, hd, hb]
          refine callK_ref q0 [(0, some 0)] [0] [] [] ?_ ?_ ?_ (.inl ⟨rfl, .inl rfl⟩) (fun _ => ?_)
          · simp [go_sem, rq, hN', hM', hK', sb5, zb5, hp5, hw, hb]
          · simp [go_sem, rq, hN', hM', hK', sb5, zb5, hp5, hw, hb]
          · simp [go_sem, rq, hN', hM', hK', sb5, zb5, hp5, hw, hb]
          simp (disch := omega) [go_sem, rq, hN', hM', hK', sb5, zb5, hp5, hw, hb]
          refine ⟨⟨by omega, by omega, by omega⟩, .inr ⟨[(1, 3)], by kernel_rfl, by simp [lateAll, lateOne, lateIn, go_sem]⟩, ?_⟩
          refine round_of (k + 1) (⟨by omega, e2⟩) (by omega) (Le.mk [(0, some 0), (16, some 16), (80, some 80), (1002, some 1002)] [0, 16, 80, 1002] ⟨rfl, rfl, rfl⟩ ?_ ?_ ?_) <;> simp [go_sem, rq, hN', hM', hK', sb5, zb5, hp5, hw, e11, e12, hlk]
    · have hd : k < N := by omega
      have hb : (repQ grpQ k vN.2).2.bad = false := by cases h : (repQ grpQ k vN.2).2.bad with | false => rfl | true => exact absurd (.inr h) hend
      obtain ⟨e1, e2⟩ := g2 hb
      clear g1 g2 hend
      generalize hst : (repQ grpQ k vN.2).2 = st at *
      generalize hL : (repQ grpQ k vN.2).1 = L at *
      have e11 : (repQ grpQ (k + 1) vN.2).1.map grpV = L.map grpV ++ [grpV ⟨(oneF st 2).1, (oneF (oneF st 2).2 1048576).1, (oneF (oneF (oneF st 2).2 1048576).2 1048576).1⟩] := by rw [e1]; simp [grpQ]
      have e12 : (repQ grpQ (k + 1) vN.2).2 = (oneF (oneF (oneF st 2).2 1048576).2 1048576).2 := by rw [e1]; rfl
      clear e1
      have q0 := r5num_spec st 2 (by omega)
      have b0 := oneF_in st (most := 2) (by omega)
      generalize oneF st 2 = x0 at *
      have q1 := r5num_spec x0.2 1048576 (by omega)
      have b1 := oneF_in x0.2 (most := 1048576) (by omega)
      generalize oneF x0.2 1048576 = x1 at *
      have q2 := r5num_spec x1.2 1048576 (by omega)
      have b2 := oneF_in x1.2 (most := 1048576) (by omega)
      generalize oneF x1.2 1048576 = x2 at *
      have hw : IntKind.u8.wrap x0.1 = x0.1 := u8_wrap (by omega) (by omega)
      simp only [grpV] at e11
      simp (disch := omega) [go_sem, rq, hN', hM', hK', sb5, zb5, hp5, hw, hd, hb]
      refine callK_ref q0 [(0, some 0)] [0] [] [] ?_ ?_ ?_ (.inl ⟨rfl, .inl rfl⟩) (fun _ => ?_)
      · simp [go_sem, rq, hN', hM', hK', sb5, zb5, hp5, hw, hb]
      · simp [go_sem, rq, hN', hM', hK', sb5, zb5, hp5, hw, hb]
      · simp [go_sem, rq, hN', hM', hK', sb5, zb5, hp5, hw, hb]
      simp (disch := omega) [go_sem, rq, hN', hM', hK', sb5, zb5, hp5, hw, hb]
      refine callK_ref q1 [(0, some 0)] [0] [] [] ?_ ?_ ?_ (.inl ⟨rfl, .inl rfl⟩) (fun _ => ?_)
      · simp [go_sem, rq, hN', hM', hK', sb5, zb5, hp5, hw, hb]
      · simp [go_sem, rq, hN', hM', hK', sb5, zb5, hp5, hw, hb]
      · simp [go_sem, rq, hN', hM', hK', sb5, zb5, hp5, hw, hb]
      simp (disch := omega) [go_sem, rq, hN', hM', hK', sb5, zb5, hp5, hw, hb]
      refine callK_ref q2 [(0, some 0)] [0] [] [] ?_ ?_ ?_ (.inl ⟨rfl, .inl rfl⟩) (fun _ => ?_)
      · simp [go_sem, rq, hN', hM', hK', sb5, zb5, hp5, hw, hb]
      · simp [go_sem, rq, hN', hM', hK', sb5, zb5, hp5, hw, hb]
      · simp [go_sem, rq, hN', hM', hK', sb5, zb5, hp5, hw, hb]
      simp (disch := omega) [go_sem, rq, hN', hM', hK', sb5, zb5, hp5, hw, hb]
      refine ⟨⟨by omega, by omega, by omega⟩, ?_⟩
      refine round_of (k + 1) (⟨by omega, e2⟩) (by omega) (Le.mk [(0, some 0), (16, some 16), (80, some 80), (1001, some 1001)] [0, 16, 80, 1001] ⟨rfl, rfl, rfl⟩ ?_ ?_ ?_) <;> simp [go_sem, rq, hN', hM', hK', sb5, zb5, hp5, hw, e11, e12, hlk]
end Go.Proofs.YtdeionjkcmpnpaaGreatDoor
