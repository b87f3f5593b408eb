
/- The layer net: a region is read. -/
import Derived.Test.YtdeionjkcmpnpaaGreatDoorNRd
set_option linter.unusedSimpArgs false
set_option linter.unusedVariables false
namespace Go.Proofs.YtdeionjkcmpnpaaGreatDoor
open Go.AM Go.RowKit
set_option maxRecDepth 100000

def rdsN : List V := [.func (.func 41) [.ptr 176 1 0 0] [], .func (.func 42) [.ptr 176 1 0 0] [], .func (.func 43) [.ptr 176 1 0 0] [], .func (.func 44) [.ptr 176 1 0 0] []]
def nrK (r0 r1 r2 r3 r4 : AM.Obj) : Nat → AM.Obj
  | 0 => r0
  | 1 => r1
  | 2 => r2
  | 3 => r3
  | _ => r4
set_option maxHeartbeats 8000000 in
theorem nread_spec (l : List UInt8) : FnD Tryz.prog 12 [.sl 1 (bts l)] (.tup [netV (readNS l), .int .i64 (readNE l)]) tabG := by
  have hno : ¬ ReadNOk l → readNS l = zeroN ∧ readNE l = 8 := readN_bad
  have hok : ReadNOk l → readNS l = readNT l ∧ readNE l = 0 := readN_ok
  have hz : netV zeroN = .agg [.sl 12 [], .sl 2 [], .sl 4 [], .int .i64 0, .int .i64 0, .int .i64 0] := rfl
  refine fnD_of mixed Tryz.func12 rfl rfl (by simp [Tryz.ntmps12]) fun hwf E => ?_
  simp (disch := omega) [go_sem] at hwf
  simp (disch := omega) [Tryz.ntmps12, go_sem]
  by_cases h4 : l.length < 4
  · obtain ⟨e1, e2⟩ := hno fun h => by have := h.1; omega
    rw [e1, e2, hz]
    have hd : decide ((l.length : Int) < 4) = true := by simp; omega
    simp (disch := omega) [go_sem, hd, bts_len]
  · have hRO : ReadNOk l ↔ readNB l = false ∧ NetOk (readNT l) ∧ writeNB (readNT l) = l := ⟨fun h => h.2, fun h => ⟨by omega, h⟩⟩
    have q1 := nsites_spec (stN l)
    have q2 := nsubs_spec (nS (stN l)).2 (nS (stN l)).1
    have q3 := ncyc_spec (nU (stN l)).2 (.sl 12 ((nS (stN l)).1.map sitV)) (.sl 2 ((nU (stN l)).1.map subV)) (by simp [go_sem]) (by simp [go_sem])
    have q4 := nweds_spec (nSt (stN l)).2 (nS (stN l)).1 (nU (stN l)).1 (nLo (stN l)).1 (nHi (stN l)).1 (nSt (stN l)).1
    have eU : repF subR (oneF (nS (stN l)).2 6).1.toNat (oneF (nS (stN l)).2 6).2 = nU (stN l) := rfl
    have eW : repF wedR (oneF (nSt (stN l)).2 8).1.toNat (oneF (nSt (stN l)).2 8).2 = nW (stN l) := rfl
    have eL : oneF (nU (stN l)).2 1048576 = nLo (stN l) := rfl
    have eH : oneF (nLo (stN l)).2 1048576 = nHi (stN l) := rfl
    have eS : oneF (nHi (stN l)).2 1048576 = nSt (stN l) := rfl
    rw [eU] at q2
    rw [eL, eH, eS] at q3
    rw [eW] at q4
    have hnt : netV (readNT l) = .agg [.sl 12 ((nS (stN l)).1.map sitV), .sl 2 ((nU (stN l)).1.map subV), .sl 4 ((nW (stN l)).1.map wedV), .int .i64 (nLo (stN l)).1, .int .i64 (nHi (stN l)).1, .int .i64 (nSt (stN l)).1] := by simp only [readNT, netR, netV]
    have hbd : readNB l = (nW (stN l)).2.bad := rfl
    have q5 := nwrite_spec (readNT l)
    have hst : stN l = ⟨l.take (l.length - 4), false⟩ := rfl
    have e5 : netN (readNT l) = 0 → netE (readNT l) = writeNB (readNT l) := fun h => by unfold netE; rw [if_pos h]
    have q6 := equal_spec (writeNB (readNT l)) l
    have hNk : netN (readNT l) = 0 → NetOk (readNT l) := fun h => Classical.byContradiction fun hn => by rw [netN_bad hn] at h; omega
    have hNk2 := netN_ok (n := readNT l)
    have hNk3 := netN_bad (n := readNT l)
    rw [hnt] at q5
    rw [hbd] at hRO
    clear eU eW eL eH eS hbd
    generalize readNT l = T at *
    generalize nW (stN l) = w at *
    generalize nSt (stN l) = x3 at *
    generalize nHi (stN l) = x2 at *
    generalize nLo (stN l) = x1 at *
    generalize nU (stN l) = u at *
    generalize nS (stN l) = s at *
    rw [hst] at q1
    have hd : decide ((l.length : Int) < 4) = false := by simp; omega
    have ht : ((l.length : Int) - 4).toNat = l.length - 4 := by omega
    simp (disch := omega) [go_sem, rdP, flN, hd, ht, bts_len, bts_take]
    refine ⟨by omega, ?_⟩
    refine awz_loop mixed (fun k : Nat => ⟨[(30, .int .i64 k), (29, .int .i64 4), (28, .obj 336 4), (4, .ptr 176 1 0 0), (2, .ptr 0 1 0 0), (0, .sl 1 (bts l))], [(336, ⟨.arr, 1, 1, rdsN⟩), (176, nrK (rdP ⟨l.take (l.length - 4), false⟩ (flN .nilS .nilS .nilS 0 0 0)) (rdP s.2 (flN (.sl 12 (s.1.map sitV)) .nilS .nilS 0 0 0)) (rdP u.2 (flN (.sl 12 (s.1.map sitV)) (.sl 2 (u.1.map subV)) .nilS 0 0 0)) (rdP x3.2 (flN (.sl 12 (s.1.map sitV)) (.sl 2 (u.1.map subV)) .nilS x1.1 x2.1 x3.1)) (rdP w.2 (flN (.sl 12 (s.1.map sitV)) (.sl 2 (u.1.map subV)) (.sl 4 (w.1.map wedV)) x1.1 x2.1 x3.1)) k), (0, ⟨.box, 26, 6, [.agg [.nilS, .nilS, .nilS, .int .i64 0, .int .i64 0, .int .i64 0]]⟩)], 1024, [], 64, 0, tabG⟩) (fun k => k ≤ 4) (fun k => 4 - k) 0 ?_ ?_ ?_
    · omega
    · refine Le.mk [(0, some 0), (176, some 176), (336, some 336)] [0, 176, 336] ⟨rfl, rfl, rfl⟩ ?_ ?_ ?_ <;> simp [go_sem, rdP, flN, hd, ht, bts_len, bts_take, nrK, rdsN]
    · intro k hk
      have hcases : k = 0 ∨ k = 1 ∨ k = 2 ∨ k = 3 ∨ k = 4 := by omega
      rcases hcases with rfl | rfl | rfl | rfl | rfl
      · simp (disch := omega) [go_sem, rdP, flN, hd, ht, bts_len, bts_take, nrK, rdsN]
        refine callK_ref q1 [(0, some 176)] [176] [] [] ?_ ?_ ?_ (.inl ⟨rfl, .inl rfl⟩) (fun _ => ?_) (by simp [tabG, go_sem])
        · simp [go_sem, rdP, flN, hd, ht, bts_len, bts_take]
        · simp [go_sem, rdP, flN, hd, ht, bts_len, bts_take]
        · simp [go_sem, rdP, flN, hd, ht, bts_len, bts_take]
        simp (disch := omega) [go_sem, rdP, flN, hd, ht, bts_len, bts_take]
        refine round_of 1 (by omega) (by omega) (Le.mk [(0, some 0), (176, some 176), (336, some 336)] [0, 176, 336] ⟨rfl, rfl, rfl⟩ ?_ ?_ ?_) <;> simp [go_sem, rdP, flN, hd, ht, bts_len, bts_take, nrK, rdsN]
      · simp (disch := omega) [go_sem, rdP, flN, hd, ht, bts_len, bts_take, nrK, rdsN]
        refine callK_ref q2 [(0, some 176)] [176] [] [] ?_ ?_ ?_ (.inl ⟨rfl, .inl rfl⟩) (fun _ => ?_)
        · simp [go_sem, rdP, flN, hd, ht, bts_len, bts_take]
        · simp [go_sem, rdP, flN, hd, ht, bts_len, bts_take]
        · simp [go_sem, rdP, flN, hd, ht, bts_len, bts_take]
        simp (disch := omega) [go_sem, rdP, flN, hd, ht, bts_len, bts_take]
        refine round_of 2 (by omega) (by omega) (Le.mk [(0, some 0), (176, some 176), (336, some 336)] [0, 176, 336] ⟨rfl, rfl, rfl⟩ ?_ ?_ ?_) <;> simp [go_sem, rdP, flN, hd, ht, bts_len, bts_take, nrK, rdsN]
      · simp (disch := omega) [go_sem, rdP, flN, hd, ht, bts_len, bts_take, nrK, rdsN]
        refine callK_ref q3 [(0, some 176)] [176] [] [] ?_ ?_ ?_ (.inl ⟨rfl, .inl rfl⟩) (fun _ => ?_)
        · simp [go_sem, rdP, flN, hd, ht, bts_len, bts_take]
        · simp [go_sem, rdP, flN, hd, ht, bts_len, bts_take]
        · simp [go_sem, rdP, flN, hd, ht, bts_len, bts_take]
        simp (disch := omega) [go_sem, rdP, flN, hd, ht, bts_len, bts_take]
        refine round_of 3 (by omega) (by omega) (Le.mk [(0, some 0), (176, some 176), (336, some 336)] [0, 176, 336] ⟨rfl, rfl, rfl⟩ ?_ ?_ ?_) <;> simp [go_sem, rdP, flN, hd, ht, bts_len, bts_take, nrK, rdsN]
      · simp (disch := omega) [go_sem, rdP, flN, hd, ht, bts_len, bts_take, nrK, rdsN]
        refine callK_ref q4 [(0, some 176)] [176] [] [] ?_ ?_ ?_ (.inl ⟨rfl, .inl rfl⟩) (fun _ => ?_)
        · simp [go_sem, rdP, flN, hd, ht, bts_len, bts_take]
        · simp [go_sem, rdP, flN, hd, ht, bts_len, bts_take]
        · simp [go_sem, rdP, flN, hd, ht, bts_len, bts_take]
        simp (disch := omega) [go_sem, rdP, flN, hd, ht, bts_len, bts_take]
        refine round_of 4 (by omega) (by omega) (Le.mk [(0, some 0), (176, some 176), (336, some 336)] [0, 176, 336] ⟨rfl, rfl, rfl⟩ ?_ ?_ ?_) <;> simp [go_sem, rdP, flN, hd, ht, bts_len, bts_take, nrK, rdsN]
      · simp (disch := omega) [go_sem, rdP, flN, hd, ht, bts_len, bts_take, nrK, rdsN]
        by_cases hP : ReadNOk l
        · obtain ⟨y1, y2, y3⟩ := hRO.1 hP
          rw [(hok hP).1, (hok hP).2, hnt]
          have e0 := hNk2 y2
          rw [e5 e0, e0, y3] at q5
          rw [y3] at q6
          refine callK_data q5 [] (by simp [go_sem, rdP, flN, hd, ht, bts_len, bts_take]) (.inl rfl) (by simp [go_sem, rdP, flN, hd, ht, bts_len, bts_take]) (fun _ => ?_) (by simp [tabG, go_sem])
          simp (disch := omega) [go_sem, rdP, flN, hd, ht, bts_len, bts_take]
          simp (disch := omega) [go_sem, rdP, flN, hd, ht, bts_len, bts_take, y1]
          refine callK_data q6 [] (by simp [go_sem, rdP, flN, hd, ht, bts_len, bts_take]) (.inl rfl) (by simp [go_sem, rdP, flN, hd, ht, bts_len, bts_take]) (fun _ => ?_)
          simp (disch := omega) [go_sem, rdP, flN, hd, ht, bts_len, bts_take]
        · rw [(hno hP).1, (hno hP).2, hz]
          by_cases hk2 : NetOk T
          · have e0 := hNk2 hk2
            rw [e5 e0, e0] at q5
            refine callK_data q5 [] (by simp [go_sem, rdP, flN, hd, ht, bts_len, bts_take]) (.inl rfl) (by simp [go_sem, rdP, flN, hd, ht, bts_len, bts_take]) (fun _ => ?_) (by simp [tabG, go_sem])
            simp (disch := omega) [go_sem, rdP, flN, hd, ht, bts_len, bts_take]
            cases hb : w.2.bad with
            | true =>
              simp (disch := omega) [go_sem, rdP, flN, hd, ht, bts_len, bts_take, hb]
            | false =>
              have hne : (writeNB T == l) = false := by
                cases h : (writeNB T == l) with
                | false => rfl
                | true => exact absurd (hRO.2 ⟨hb, hk2, by simpa using h⟩) hP
              rw [hne] at q6
              simp (disch := omega) [go_sem, rdP, flN, hd, ht, bts_len, bts_take, hb]
              refine callK_data q6 [] (by simp [go_sem, rdP, flN, hd, ht, bts_len, bts_take]) (.inl rfl) (by simp [go_sem, rdP, flN, hd, ht, bts_len, bts_take]) (fun _ => ?_)
              simp (disch := omega) [go_sem, rdP, flN, hd, ht, bts_len, bts_take]
          · rw [hNk3 hk2] at q5
            refine callK_data q5 [] (by simp [go_sem, rdP, flN, hd, ht, bts_len, bts_take]) (.inl rfl) (by simp [go_sem, rdP, flN, hd, ht, bts_len, bts_take]) (fun _ => ?_) (by simp [tabG, go_sem])
            simp (disch := omega) [go_sem, rdP, flN, hd, ht, bts_len, bts_take]
end Go.Proofs.YtdeionjkcmpnpaaGreatDoor
