
/- The reference stoplineref06: regions are read; NetBytes. -/
import Derived.Test.YtdeionjkcmpnpaaGreatDoorWr6
import Derived.Test.YtdeionjkcmpnpaaGreatDoorNRw
import Derived.Test.YtdeionjkcmpnpaaGreatDoorNTwin
import Derived.Test.YtdeionjkcmpnpaaGreatDoorRNet
set_option linter.unusedSimpArgs false
set_option linter.unusedVariables false
namespace Go.Proofs.YtdeionjkcmpnpaaGreatDoor
open Go.AM Go.RowKit
set_option maxRecDepth 100000

set_option maxHeartbeats 2000000 in
theorem r6nums_spec (s : RdS) (m : Int) (hm : 0 ≤ m) (hm2 : m ≤ 100) : FnR Tryz.prog 48 [rq s] [.ptr 0 1 0 0, .int .i64 m] [rq (someQ m s).2] (.sl 1 (ints (someQ m s).1)) := by
  have q0 := r5num_spec s m hm
  have hb := oneF_in s hm
  have hpl : someQ m s = repQ (fun s => oneF s 1048576) (oneF s m).1.toNat (oneF s m).2 := rfl
  rw [hpl]
  generalize oneF s m = o at *
  obtain ⟨x, s4⟩ := o
  simp only at hb q0 ⊢
  obtain ⟨N, rfl⟩ := Int.eq_ofNat_of_zero_le hb.1
  rw [Int.toNat_natCast]
  refine fnR_of mixed Tryz.func48 rfl rfl (by simp [Tryz.ntmps48]) (by simp) fun hwf E => ?_
  clear hwf
  simp (disch := omega) [Tryz.ntmps48, go_sem, rq]
  refine callK_ref q0 [(0, some 0)] [0] [] [] ?_ ?_ ?_ (.inl ⟨rfl, .inl rfl⟩) (fun _ => ?_)
  · simp [go_sem, rq]
  · simp [go_sem, rq]
  · simp [go_sem, rq]
  simp (disch := omega) [go_sem, rq]
  refine awz_loop mixed (fun j : Nat => ⟨[(7, .int .i64 j), (6, .int .i64 N), (5, .obj 1002 j), (0, .ptr 0 1 0 0)], [(1002, ⟨.arr, 3, 1, ints (repQ (fun s => oneF s 1048576) j s4).1⟩), (0, rq (repQ (fun s => oneF s 1048576) j s4).2)], 1024, [], 29, 1, []⟩) (fun j => j ≤ N ∧ (repQ (fun s => oneF s 1048576) j s4).1.length = j) (fun j => N - j) 0 ?_ ?_ ?_
  · exact ⟨by omega, rfl⟩
  · refine Le.mk [(0, some 0), (1002, none)] [0] ⟨rfl, rfl, rfl⟩ ?_ ?_ ?_ <;> simp [go_sem, rq, repQ, ints_nil]
  · rintro j ⟨hj, hlj⟩
    obtain ⟨f1, f2⟩ := rq_ok (f := fun s => oneF s 1048576) hj hlj
    by_cases hjn : j = N
    · subst hjn
      have hd2 : ¬ j < j := by omega
      simp (disch := omega) [go_sem, rq, hd2]
      refine Le.mk [(0, some 0)] [0] ⟨rfl, rfl, rfl⟩ ?_ ?_ ?_ <;> simp [go_sem, rq, hlj]
    · cases hb2 : (repQ (fun s => oneF s 1048576) j s4).2.bad with
      | true =>
        rw [f1 hb2]
        simp (disch := omega) [go_sem, rq, hb2]
        refine Le.mk [(0, some 0)] [0] ⟨rfl, rfl, rfl⟩ ?_ ?_ ?_ <;> simp [go_sem, rq, hlj, hb2]
      | false =>
        have hd2 : j < N := by omega
        obtain ⟨f2, f3⟩ := f2 hb2
        have q5 := r5num_spec (repQ (fun s => oneF s 1048576) j s4).2 1048576 (by omega)
        have f4 : ints (repQ (fun s => oneF s 1048576) (j + 1) s4).1 = ints (repQ (fun s => oneF s 1048576) j s4).1 ++ [.int .i64 (oneF (repQ (fun s => oneF s 1048576) j s4).2 1048576).1] := by rw [f2]; simp [ints]
        have f5 : (repQ (fun s => oneF s 1048576) (j + 1) s4).2 = (oneF (repQ (fun s => oneF s 1048576) j s4).2 1048576).2 := by rw [f2]
        clear f2
        simp (disch := omega) [go_sem, rq, hd2, hb2]
        refine callK_ref q5 [(0, some 0)] [0] [] [] ?_ ?_ ?_ (.inl ⟨rfl, .inl rfl⟩) (fun _ => ?_)
        · simp [go_sem, rq, hb2]
        · simp [go_sem, rq, hb2]
        · simp [go_sem, rq, hb2]
        simp (disch := omega) [go_sem, rq, hb2]
        refine ⟨⟨by omega, by omega, by omega⟩, ?_⟩
        refine round_of (j + 1) (⟨by omega, f3⟩) (by omega) (Le.mk [(0, some 0), (1002, some 1002)] [0, 1002] ⟨rfl, rfl, rfl⟩ ?_ ?_ ?_) <;> simp [go_sem, rq, f4, f5]
def nb6 (a b c : V) (lo hi st : Int) : AM.Obj := ⟨.box, 26, 6, [.agg [a, b, c, .int .i64 lo, .int .i64 hi, .int .i64 st]]⟩
def hp6 (a b c : V) (lo hi st : Int) (s : RdS) : List (Nat × AM.Obj) := [(208, nb6 a b c lo hi st), (176, rq s), (0, nb6 .nilS .nilS .nilS 0 0 0)]
theorem readNQ {l : List UInt8} (h : ReadNOk l) : sitesQ (oneF (stN l) 12).1.toNat (oneF (stN l) 12).2 = some ((readNT l).sites, ⟨putN (netI (readNT l)), false⟩) ∧ netQ ((readNT l).sites, ⟨putN (netI (readNT l)), false⟩) = readNT l ∧ (mW ⟨putN (netI (readNT l)), false⟩).2 = ⟨[], false⟩ := by
  obtain ⟨_, _, h3, h4⟩ := h
  have := netQ_write h3.written
  rw [← stN_write, h4] at this
  exact this
theorem readE_nil : readE [] ≠ 0 := by
  have : ¬ ReadOk [] := fun h => by have := h.1; simp at this
  rw [(read_bad this).2]; decide
theorem sz_or {st : RdS} {len : Nat} (h : st.b.length ≤ len) (hb : st.bad = false) (m : Nat) : oneF st len = szR st ∨ (((oneF st len).2.b.length : Int) < (oneF st len).1 ∧ sitesQ (m + 1) st = none) := by
  obtain ⟨b, bad⟩ := st
  simp only at h hb
  subst hb
  unfold szR
  simp only
  cases hr : readN b with
  | none => left; rw [oneF_none hr, oneF_none hr]
  | some p =>
    obtain ⟨n, k⟩ := p
    by_cases h1 : (n : Int) ≤ b.length
    · left; rw [oneF_fit hr h1, oneF_fit hr (by omega)]
    · by_cases h2 : (n : Int) ≤ len
      · right
        rw [oneF_fit hr h2]
        refine ⟨by simp only [List.length_drop]; omega, ?_⟩
        have hz : szR ⟨b, false⟩ = (0, ⟨b, true⟩) := oneF_big hr (by simp only; omega)
        rw [sitesQ, hz, if_neg (by simp), if_neg (by simp only; omega), if_pos (show readE (List.take (0 : Int).toNat b) ≠ 0 from readE_nil)]
      · left; rw [oneF_big hr (by omega), oneF_big hr (by omega)]
set_option maxHeartbeats 16000000 in
theorem r6read_spec (l : List UInt8) : FnD Tryz.prog 13 [.sl 1 (bts l)] (.tup [netV (readNS l), .int .i64 (readNE l)]) := by
  have hno : ¬ ReadNOk l → readNS l = zeroN ∧ readNE l = 8 := readN_bad
  have hok : ReadNOk l → readNS l = readNT l ∧ readNE l = 0 := readN_ok
  have hz : netV zeroN = .agg [.sl 12 [], .sl 2 [], .sl 4 [], .int .i64 0, .int .i64 0, .int .i64 0] := rfl
  refine fnD_of mixed Tryz.func13 rfl rfl (by simp [Tryz.ntmps13]) fun hwf E => ?_
  simp (disch := omega) [go_sem] at hwf
  simp (disch := omega) [Tryz.ntmps13, go_sem]
  by_cases h4 : l.length < 4
  · obtain ⟨e1, e2⟩ := hno fun h => by have := h.1; omega
    rw [e1, e2, hz]
    have hd : decide ((l.length : Int) < 4) = true := by simp; omega
    simp (disch := omega) [go_sem, hd, bts_len]
  · have hQ := readNQ (l := l)
    have hd : decide ((l.length : Int) < 4) = false := by simp; omega
    have ht : ((l.length : Int) - 4).toNat = l.length - 4 := by omega
    have q0 := r5num_spec (stN l) 12 (by omega)
    have hb0 := oneF_in (stN l) (most := 12) (by omega)
    have hSt : rq (stN l) = ⟨.box, 112, 2, [.agg [.sl 1 (bts (l.take (l.length - 4))), .bool false]]⟩ := rfl
    rw [hSt] at q0
    clear hSt
    generalize oneF (stN l) 12 = o at *
    obtain ⟨x, s1⟩ := o
    simp only at hb0 q0 hQ
    obtain ⟨N, rfl⟩ := Int.eq_ofNat_of_zero_le hb0.1
    simp only [Int.toNat_natCast] at hQ
    have hq5 := fun T => r6write_spec T
    have hs1 : s1.b.length ≤ l.length := by
      have h1 := hb0.2.2
      have h2 : (stN l).b.length ≤ l.length := by simp only [stN, List.length_take]; omega
      omega
    simp (disch := omega) [go_sem, rq, nb6, hp6, hd, ht, bts_len, bts_take, bts_drop]
    refine ⟨by omega, ?_⟩
    refine callK_ref q0 [(0, some 176)] [176] [] [] ?_ ?_ ?_ (.inl ⟨rfl, .inl rfl⟩) (fun _ => ?_)
    · simp [go_sem, rq, nb6, hp6, hd, ht, bts_len, bts_take, bts_drop]
    · simp [go_sem, rq, nb6, hp6, hd, ht, bts_len, bts_take, bts_drop]
    · simp [go_sem, rq, nb6, hp6, hd, ht, bts_len, bts_take, bts_drop]
    simp (disch := omega) [go_sem, rq, nb6, hp6, hd, ht, bts_len, bts_take, bts_drop]
    refine awz_loop mixed (fun p : Nat × List Sit × RdS => ⟨[(7, .int .i64 p.1), (6, .int .i64 N), (5, .ptr 208 1 0 0), (4, .ptr 176 1 0 0), (2, .ptr 0 1 0 0), (0, .sl 1 (bts l))], (1001, ⟨.arr, 87, 12, p.2.1.map sitV⟩) :: hp6 (.obj 1001 p.1) .nilS .nilS 0 0 0 p.2.2, 1024, [], 170, 0, []⟩) (fun p => p.1 ≤ N ∧ p.2.1.length = p.1 ∧ p.2.2.b.length ≤ l.length ∧ sitesQ N s1 = (sitesQ (N - p.1) p.2.2).map fun x => (p.2.1 ++ x.1, x.2)) (fun p => N - p.1) (0, [], s1) ⟨by simp only; omega, rfl, hs1, by simp⟩ ?_ ?_
    · refine Le.mk [(0, some 0), (176, some 176), (208, some 208), (1001, none)] [0, 176, 208] ⟨rfl, rfl, rfl⟩ ?_ ?_ ?_ <;> simp [go_sem, rq, nb6, hp6, hd, ht, bts_len, bts_take, bts_drop]
    · rintro ⟨k, L, st⟩ ⟨hk, hlk, hsl, hI⟩
      simp only at hk hlk hsl hI
      by_cases hend : k = N ∨ st.bad = true
      · have hI2 : sitesQ N s1 = some (L, st) := by
          rw [hI]
          rcases hend with h | h
          · rw [h, Nat.sub_self, sitesQ]; simp
          · cases N - k with
            | zero => simp [sitesQ]
            | succ m => simp [sitesQ, h]
        have hcond : (decide (k < N) && !st.bad) = false := by rcases hend with h | h <;> simp [h]
        have hT : ReadNOk l → netQ (L, st) = readNT l ∧ (mW st).2.bad = false := fun h => by
          obtain ⟨a, b, c⟩ := hQ h
          rw [hI2] at a
          have a := Option.some.inj a
          have a2 : st = ⟨putN (netI (readNT l)), false⟩ := congrArg Prod.snd a
          rw [← a] at b
          rw [← a2] at c
          exact ⟨b, by rw [c]⟩
        clear hI hQ hend hI2
        have hnt : netV (netQ (L, st)) = .agg [.sl 12 (L.map sitV), .sl 2 ((mU st).1.map subV), .sl 4 ((mW st).1.map wedV), .int .i64 (mLo st).1, .int .i64 (mHi st).1, .int .i64 (mSt st).1] := by simp only [netQ, netV]
        have hq5 := hq5 (netQ (L, st))
        rw [hnt] at hq5
        have eU : mU st = repQ subQ (oneF st 6).1.toNat (oneF st 6).2 := rfl
        have eL : mLo st = oneF (mU st).2 1048576 := rfl
        have eH : mHi st = oneF (mLo st).2 1048576 := rfl
        have eS : mSt st = oneF (mHi st).2 1048576 := rfl
        have eW : mW st = repQ wedQ (oneF (mSt st).2 8).1.toNat (oneF (mSt st).2 8).2 := rfl
        have p1 := r5num_spec st 6 (by omega)
        have p2 := r5num_spec (mU st).2 1048576 (by omega)
        have p3 := r5num_spec (mLo st).2 1048576 (by omega)
        have p4 := r5num_spec (mHi st).2 1048576 (by omega)
        have p5 := r5num_spec (mSt st).2 8 (by omega)
        have b1 := oneF_in st (most := 6) (by omega)
        have b5 := oneF_in (mSt st).2 (most := 8) (by omega)
        rw [← eL] at p2
        rw [← eH] at p3
        rw [← eS] at p4
        generalize netQ (L, st) = T at *
        generalize mW st = vW at *
        generalize oneF (mSt st).2 8 = o8 at *
        generalize mSt st = vS at *
        generalize mHi st = vH at *
        generalize mLo st = vL at *
        generalize mU st = vU at *
        generalize oneF st 6 = o6 at *
        obtain ⟨x6, s6⟩ := o6
        obtain ⟨x8, s8⟩ := o8
        simp only at eU eW p1 p5 b1 b5
        obtain ⟨N2, rfl⟩ := Int.eq_ofNat_of_zero_le b1.1
        obtain ⟨N3, rfl⟩ := Int.eq_ofNat_of_zero_le b5.1
        rw [Int.toNat_natCast] at eU eW
        clear eL eH eS
        simp (disch := omega) [go_sem, rq, nb6, hp6, hd, ht, bts_len, bts_take, bts_drop, hcond]
        refine callK_ref p1 [(0, some 176)] [176] [] [] ?_ ?_ ?_ (.inl ⟨rfl, .inl rfl⟩) (fun _ => ?_)
        · simp [go_sem, rq, nb6, hp6, hd, ht, bts_len, bts_take, bts_drop]
        · simp [go_sem, rq, nb6, hp6, hd, ht, bts_len, bts_take, bts_drop]
        · simp [go_sem, rq, nb6, hp6, hd, ht, bts_len, bts_take, bts_drop]
        simp (disch := omega) [go_sem, rq, nb6, hp6, hd, ht, bts_len, bts_take, bts_drop]
        refine awz_loop mixed (fun k : Nat => ⟨[(11, .int .i64 k), (6, .int .i64 N2), (5, .ptr 208 1 0 0), (4, .ptr 176 1 0 0), (2, .ptr 0 1 0 0), (0, .sl 1 (bts l))], (1002, ⟨.arr, 95, 2, (repQ subQ k s6).1.map subV⟩) :: hp6 (.sl 12 (L.map sitV)) (.obj 1002 k) .nilS 0 0 0 (repQ subQ k s6).2, 2048, [], 170, 0, []⟩) (fun k => k ≤ N2 ∧ (repQ subQ k s6).1.length = k) (fun k => N2 - k) 0 ?_ ?_ ?_
        · exact ⟨by omega, rfl⟩
        · refine Le.mk [(0, some 0), (176, some 176), (208, some 208), (1002, none)] [0, 176, 208] ⟨rfl, rfl, rfl⟩ ?_ ?_ ?_ <;> simp [go_sem, rq, nb6, hp6, hd, ht, bts_len, bts_take, bts_drop, repQ, hlk]
        · rintro k ⟨hk2, hlk2⟩
          obtain ⟨g1, g2⟩ := rq_ok (f := subQ) hk2 hlk2
          by_cases hend : k = N2 ∨ (repQ subQ k s6).2.bad = true
          · have hfin : repQ subQ k s6 = vU := by
              rw [eU]
              rcases hend with h | h
              · rw [h]
              · exact (g1 h).symm
            have hcond2 : (decide (k < N2) && !vU.2.bad) = false := by
              rw [hfin] at hend
              rcases hend with h | h <;> simp [h]
            rw [hfin] at hlk2
            clear g1 g2 hend
            simp (disch := omega) [go_sem, rq, nb6, hp6, hd, ht, bts_len, bts_take, bts_drop, hfin, hcond2]
            refine callK_ref p2 [(0, some 176)] [176] [] [] ?_ ?_ ?_ (.inl ⟨rfl, .inl rfl⟩) (fun _ => ?_)
            · simp [go_sem, rq, nb6, hp6, hd, ht, bts_len, bts_take, bts_drop]
            · simp [go_sem, rq, nb6, hp6, hd, ht, bts_len, bts_take, bts_drop]
            · simp [go_sem, rq, nb6, hp6, hd, ht, bts_len, bts_take, bts_drop]
            simp (disch := omega) [go_sem, rq, nb6, hp6, hd, ht, bts_len, bts_take, bts_drop]
            refine callK_ref p3 [(0, some 176)] [176] [] [] ?_ ?_ ?_ (.inl ⟨rfl, .inl rfl⟩) (fun _ => ?_)
            · simp [go_sem, rq, nb6, hp6, hd, ht, bts_len, bts_take, bts_drop]
            · simp [go_sem, rq, nb6, hp6, hd, ht, bts_len, bts_take, bts_drop]
            · simp [go_sem, rq, nb6, hp6, hd, ht, bts_len, bts_take, bts_drop]
            simp (disch := omega) [go_sem, rq, nb6, hp6, hd, ht, bts_len, bts_take, bts_drop]
            refine callK_ref p4 [(0, some 176)] [176] [] [] ?_ ?_ ?_ (.inl ⟨rfl, .inl rfl⟩) (fun _ => ?_)
            · simp [go_sem, rq, nb6, hp6, hd, ht, bts_len, bts_take, bts_drop]
            · simp [go_sem, rq, nb6, hp6, hd, ht, bts_len, bts_take, bts_drop]
            · simp [go_sem, rq, nb6, hp6, hd, ht, bts_len, bts_take, bts_drop]
            simp (disch := omega) [go_sem, rq, nb6, hp6, hd, ht, bts_len, bts_take, bts_drop]
            refine callK_ref p5 [(0, some 176)] [176] [] [] ?_ ?_ ?_ (.inl ⟨rfl, .inl rfl⟩) (fun _ => ?_)
            · simp [go_sem, rq, nb6, hp6, hd, ht, bts_len, bts_take, bts_drop]
            · simp [go_sem, rq, nb6, hp6, hd, ht, bts_len, bts_take, bts_drop]
            · simp [go_sem, rq, nb6, hp6, hd, ht, bts_len, bts_take, bts_drop]
            simp (disch := omega) [go_sem, rq, nb6, hp6, hd, ht, bts_len, bts_take, bts_drop]
            refine awz_loop mixed (fun k : Nat => ⟨[(13, .int .i64 k), (6, .int .i64 N3), (5, .ptr 208 1 0 0), (4, .ptr 176 1 0 0), (2, .ptr 0 1 0 0), (0, .sl 1 (bts l))], (1004, ⟨.arr, 97, 4, (repQ wedQ k s8).1.map wedV⟩) :: hp6 (.sl 12 (L.map sitV)) (.sl 2 (vU.1.map subV)) (.obj 1004 k) vL.1 vH.1 vS.1 (repQ wedQ k s8).2, 4096, [], 170, 0, []⟩) (fun k => k ≤ N3 ∧ (repQ wedQ k s8).1.length = k) (fun k => N3 - k) 0 ?_ ?_ ?_
            · exact ⟨by omega, rfl⟩
            · refine Le.mk [(0, some 0), (176, some 176), (208, some 208), (1004, none)] [0, 176, 208] ⟨rfl, rfl, rfl⟩ ?_ ?_ ?_ <;> simp [go_sem, rq, nb6, hp6, hd, ht, bts_len, bts_take, bts_drop, repQ, hlk2]
            · rintro k ⟨hk3, hlk3⟩
              obtain ⟨g1, g2⟩ := rq_ok (f := wedQ) hk3 hlk3
              by_cases hend : k = N3 ∨ (repQ wedQ k s8).2.bad = true
              · have hfin : repQ wedQ k s8 = vW := by
                  rw [eW]
                  rcases hend with h | h
                  · rw [h]
                  · exact (g1 h).symm
                have hcond3 : (decide (k < N3) && !vW.2.bad) = false := by
                  rw [hfin] at hend
                  rcases hend with h | h <;> simp [h]
                rw [hfin] at hlk3
                clear g1 g2 hend
                by_cases hP : ReadNOk l
                · obtain ⟨t1, t2⟩ := hT hP
                  have t3 : NetOk T := by rw [t1]; exact hP.2.2.1
                  have t4 : writeNB T = l := by rw [t1]; exact hP.2.2.2
                  have e0 := netN_ok t3
                  have e5 : netE T = l := by unfold netE; rw [if_pos e0, t4]
                  rw [e0, e5] at hq5
                  rw [(hok hP).1, (hok hP).2, ← t1, hnt]
                  have hkn : ¬ k < N3 := by rw [t2] at hcond3; simpa using hcond3
                  simp (disch := omega) [go_sem, rq, nb6, hp6, hd, ht, bts_len, bts_take, bts_drop, bytesV_bts, strV, baList, hfin, hkn, t2]
                  refine callK_frz hq5 [1004] [(1004, ⟨.ro, 97, 4, vW.1.map wedV⟩)] (by simp [go_sem, rq, nb6, hp6, hd, ht, bts_len, bts_take, bts_drop, bytesV_bts, strV, baList, hlk3]) (by simp [go_sem, rq, nb6, hp6, hd, ht, bts_len, bts_take, bts_drop, bytesV_bts, strV, baList, hlk3]) (by simp [go_sem, rq, nb6, hp6, hd, ht, bts_len, bts_take, bts_drop, bytesV_bts, strV, baList, hlk3]) (fun _ => ?_)
                  simp (disch := omega) [go_sem, rq, nb6, hp6, hd, ht, bts_len, bts_take, bts_drop, bytesV_bts, strV, baList, hlk3]
                  first | exact argsLe_self (weds_pure _) | exact ⟨hlk3.symm, argsLe_self (weds_pure _)⟩
                · rw [(hno hP).1, (hno hP).2, hz]
                  have hrd : NetOk T → writeNB T = l → ReadNOk l := fun a b => (readN_iff l).2 ⟨T, a, b⟩
                  cases hb : vW.2.bad with
                  | true =>
                    simp (disch := omega) [go_sem, rq, nb6, hp6, hd, ht, bts_len, bts_take, bts_drop, bytesV_bts, strV, baList, hfin, hb]
                  | false =>
                    have hkn : ¬ k < N3 := by rw [hb] at hcond3; simpa using hcond3
                    by_cases hk4 : NetOk T
                    · have e0 := netN_ok hk4
                      have e5 : netE T = writeNB T := by unfold netE; rw [if_pos e0]
                      have hne : (writeNB T == l) = false := by
                        cases h : (writeNB T == l) with
                        | false => rfl
                        | true => exact absurd (hrd hk4 (by simpa using h)) hP
                      rw [e0, e5] at hq5
                      simp (disch := omega) [go_sem, rq, nb6, hp6, hd, ht, bts_len, bts_take, bts_drop, bytesV_bts, strV, baList, hfin, hkn, hb]
                      refine callK_frz hq5 [1004] [(1004, ⟨.ro, 97, 4, vW.1.map wedV⟩)] (by simp [go_sem, rq, nb6, hp6, hd, ht, bts_len, bts_take, bts_drop, bytesV_bts, strV, baList, hlk3, hne]) (by simp [go_sem, rq, nb6, hp6, hd, ht, bts_len, bts_take, bts_drop, bytesV_bts, strV, baList, hlk3, hne]) (by simp [go_sem, rq, nb6, hp6, hd, ht, bts_len, bts_take, bts_drop, bytesV_bts, strV, baList, hlk3, hne]) (fun _ => ?_)
                      simp (disch := omega) [go_sem, rq, nb6, hp6, hd, ht, bts_len, bts_take, bts_drop, bytesV_bts, strV, baList, hlk3, hne]
                    · have e0 := netN_bad hk4
                      rw [e0] at hq5
                      simp (disch := omega) [go_sem, rq, nb6, hp6, hd, ht, bts_len, bts_take, bts_drop, bytesV_bts, strV, baList, hfin, hkn, hb]
                      refine callK_frz hq5 [1004] [(1004, ⟨.ro, 97, 4, vW.1.map wedV⟩)] (by simp [go_sem, rq, nb6, hp6, hd, ht, bts_len, bts_take, bts_drop, bytesV_bts, strV, baList, hlk3]) (by simp [go_sem, rq, nb6, hp6, hd, ht, bts_len, bts_take, bts_drop, bytesV_bts, strV, baList, hlk3]) (by simp [go_sem, rq, nb6, hp6, hd, ht, bts_len, bts_take, bts_drop, bytesV_bts, strV, baList, hlk3]) (fun _ => ?_)
                      simp (disch := omega) [go_sem, rq, nb6, hp6, hd, ht, bts_len, bts_take, bts_drop, bytesV_bts, strV, baList, hlk3]
              · have hkk : k < N3 := by omega
                have hb : (repQ wedQ k s8).2.bad = false := by cases h : (repQ wedQ k s8).2.bad with | false => rfl | true => exact absurd (.inr h) hend
                obtain ⟨e1, e2⟩ := g2 hb
                have r1 : ∀ st, wedQ st = (⟨(wdA st).1, (wdB st).1, (wdV st).1, (someQ 8 (wdV st).2).1⟩, (someQ 8 (wdV st).2).2) := fun _ => rfl
                have e11 : (repQ wedQ (k + 1) s8).1.map wedV = (repQ wedQ k s8).1.map wedV ++ [wedV (wedQ (repQ wedQ k s8).2).1] := by rw [e1]; simp
                have e12 : (repQ wedQ (k + 1) s8).2 = (wedQ (repQ wedQ k s8).2).2 := by rw [e1]
                rw [r1] at e11 e12
                clear e1 g1 g2 hend r1
                generalize (repQ wedQ k s8).2 = st4 at *
                generalize (repQ wedQ k s8).1 = L4 at *
                have q1 := r5num_spec st4 6 (by omega)
                have q2 := r5num_spec (wdA st4).2 6 (by omega)
                have q3 := r5num_spec (wdB st4).2 1048576 (by omega)
                have q4 := r6nums_spec (wdV st4).2 8 (by omega) (by omega)
                have c1 : oneF st4 6 = wdA st4 := rfl
                have c2 : oneF (wdA st4).2 6 = wdB st4 := rfl
                have c3 : oneF (wdB st4).2 1048576 = wdV st4 := rfl
                rw [c1] at q1; rw [c2] at q2; rw [c3] at q3
                clear c1 c2 c3
                simp only [wedV] at e11
                generalize someQ 8 (wdV st4).2 = x4 at *
                generalize wdV st4 = x3 at *
                generalize wdB st4 = x2 at *
                generalize wdA st4 = x1 at *
                simp (disch := omega) [go_sem, rq, nb6, hp6, hd, ht, bts_len, bts_take, bts_drop, hkk, hb]
                refine callK_ref q1 [(0, some 176)] [176] [] [] ?_ ?_ ?_ (.inl ⟨rfl, .inl rfl⟩) (fun _ => ?_)
                · simp [go_sem, rq, nb6, hp6, hd, ht, bts_len, bts_take, bts_drop, hb]
                · simp [go_sem, rq, nb6, hp6, hd, ht, bts_len, bts_take, bts_drop, hb]
                · simp [go_sem, rq, nb6, hp6, hd, ht, bts_len, bts_take, bts_drop, hb]
                simp (disch := omega) [go_sem, rq, nb6, hp6, hd, ht, bts_len, bts_take, bts_drop, hb]
                refine callK_ref q2 [(0, some 176)] [176] [] [] ?_ ?_ ?_ (.inl ⟨rfl, .inl rfl⟩) (fun _ => ?_)
                · simp [go_sem, rq, nb6, hp6, hd, ht, bts_len, bts_take, bts_drop]
                · simp [go_sem, rq, nb6, hp6, hd, ht, bts_len, bts_take, bts_drop]
                · simp [go_sem, rq, nb6, hp6, hd, ht, bts_len, bts_take, bts_drop]
                simp (disch := omega) [go_sem, rq, nb6, hp6, hd, ht, bts_len, bts_take, bts_drop]
                refine callK_ref q3 [(0, some 176)] [176] [] [] ?_ ?_ ?_ (.inl ⟨rfl, .inl rfl⟩) (fun _ => ?_)
                · simp [go_sem, rq, nb6, hp6, hd, ht, bts_len, bts_take, bts_drop]
                · simp [go_sem, rq, nb6, hp6, hd, ht, bts_len, bts_take, bts_drop]
                · simp [go_sem, rq, nb6, hp6, hd, ht, bts_len, bts_take, bts_drop]
                simp (disch := omega) [go_sem, rq, nb6, hp6, hd, ht, bts_len, bts_take, bts_drop]
                refine callK_ref q4 [(0, some 176)] [176] [] [] ?_ ?_ ?_ (.inl ⟨rfl, .inl rfl⟩) (fun _ => ?_)
                · simp [go_sem, rq, nb6, hp6, hd, ht, bts_len, bts_take, bts_drop]
                · simp [go_sem, rq, nb6, hp6, hd, ht, bts_len, bts_take, bts_drop]
                · simp [go_sem, rq, nb6, hp6, hd, ht, bts_len, bts_take, bts_drop]
                simp (disch := omega) [go_sem, rq, nb6, hp6, hd, ht, bts_len, bts_take, bts_drop]
                refine ⟨⟨by omega, by omega, by omega⟩, ?_⟩
                refine round_of (k + 1) (⟨by omega, e2⟩) (by omega) (Le.mk [(0, some 0), (176, some 176), (208, some 208), (1004, some 1004)] [0, 176, 208, 1004] ⟨rfl, rfl, rfl⟩ ?_ ?_ ?_) <;> simp [go_sem, rq, nb6, hp6, hd, ht, bts_len, bts_take, bts_drop, e11, e12, hlk3]
          · have hkk : k < N2 := by omega
            have hb : (repQ subQ k s6).2.bad = false := by cases h : (repQ subQ k s6).2.bad with | false => rfl | true => exact absurd (.inr h) hend
            obtain ⟨e1, e2⟩ := g2 hb
            have r1 : ∀ st, subQ st = (⟨(someQ 12 st).1, (oneF (someQ 12 st).2 12).1⟩, (oneF (someQ 12 st).2 12).2) := fun _ => rfl
            have e11 : (repQ subQ (k + 1) s6).1.map subV = (repQ subQ k s6).1.map subV ++ [subV (subQ (repQ subQ k s6).2).1] := by rw [e1]; simp
            have e12 : (repQ subQ (k + 1) s6).2 = (subQ (repQ subQ k s6).2).2 := by rw [e1]
            rw [r1] at e11 e12
            clear e1 g1 g2 hend r1
            generalize (repQ subQ k s6).2 = st4 at *
            generalize (repQ subQ k s6).1 = L4 at *
            have q1 := r6nums_spec st4 12 (by omega) (by omega)
            have q2 := r5num_spec (someQ 12 st4).2 12 (by omega)
            simp only [subV] at e11
            generalize oneF (someQ 12 st4).2 12 = x2 at *
            generalize someQ 12 st4 = x1 at *
            simp (disch := omega) [go_sem, rq, nb6, hp6, hd, ht, bts_len, bts_take, bts_drop, hkk, hb]
            refine callK_ref q1 [(0, some 176)] [176] [] [] ?_ ?_ ?_ (.inl ⟨rfl, .inl rfl⟩) (fun _ => ?_)
            · simp [go_sem, rq, nb6, hp6, hd, ht, bts_len, bts_take, bts_drop, hb]
            · simp [go_sem, rq, nb6, hp6, hd, ht, bts_len, bts_take, bts_drop, hb]
            · simp [go_sem, rq, nb6, hp6, hd, ht, bts_len, bts_take, bts_drop, hb]
            simp (disch := omega) [go_sem, rq, nb6, hp6, hd, ht, bts_len, bts_take, bts_drop, hb]
            refine callK_ref q2 [(0, some 176)] [176] [] [] ?_ ?_ ?_ (.inl ⟨rfl, .inl rfl⟩) (fun _ => ?_)
            · simp [go_sem, rq, nb6, hp6, hd, ht, bts_len, bts_take, bts_drop]
            · simp [go_sem, rq, nb6, hp6, hd, ht, bts_len, bts_take, bts_drop]
            · simp [go_sem, rq, nb6, hp6, hd, ht, bts_len, bts_take, bts_drop]
            simp (disch := omega) [go_sem, rq, nb6, hp6, hd, ht, bts_len, bts_take, bts_drop]
            refine ⟨⟨by omega, by omega, by omega⟩, ?_⟩
            refine round_of (k + 1) (⟨by omega, e2⟩) (by omega) (Le.mk [(0, some 0), (176, some 176), (208, some 208), (1002, some 1002)] [0, 176, 208, 1002] ⟨rfl, rfl, rfl⟩ ?_ ?_ ?_) <;> simp [go_sem, rq, nb6, hp6, hd, ht, bts_len, bts_take, bts_drop, e11, e12, hlk2]
      · have hkk : k < N := by omega
        have hb : st.bad = false := by cases h : st.bad with | false => rfl | true => exact absurd (.inr h) hend
        obtain ⟨m, hm⟩ : ∃ m, N - k = m + 1 := ⟨N - k - 1, by omega⟩
        have hmk : N - (k + 1) = m := by omega
        have q1 := r5num_spec st l.length (by omega)
        have hor := sz_or hsl hb m
        have hnone : sitesQ N s1 = none → ¬ ReadNOk l := fun h hP => by have := (hQ hP).1; rw [h] at this; cases this
        have hzb := oneF_in st (most := (l.length : Int)) (by omega)
        clear hend
        rcases hor with hor | ⟨hor1, hor2⟩
        rotate_left
        · rw [hm, hor2] at hI
          rw [(hno (hnone (by rw [hI]; rfl))).1, (hno (hnone (by rw [hI]; rfl))).2, hz]
          generalize oneF st l.length = z at *
          simp (disch := omega) [go_sem, rq, nb6, hp6, hd, ht, bts_len, bts_take, bts_drop, hkk, hb]
          refine callK_ref q1 [(0, some 176)] [176] [] [] ?_ ?_ ?_ (.inl ⟨rfl, .inl rfl⟩) (fun _ => ?_)
          · simp [go_sem, rq, nb6, hp6, hd, ht, bts_len, bts_take, bts_drop, hb]
          · simp [go_sem, rq, nb6, hp6, hd, ht, bts_len, bts_take, bts_drop, hb]
          · simp [go_sem, rq, nb6, hp6, hd, ht, bts_len, bts_take, bts_drop, hb]
          simp (disch := omega) [go_sem, rq, nb6, hp6, hd, ht, bts_len, bts_take, bts_drop, hb]
          refine br_of (fun h2 => ?_) (fun h2 => ?_) <;> simp at h2
          · simp (disch := omega) [go_sem, rq, nb6, hp6, hd, ht, bts_len, bts_take, bts_drop]
          · omega
        rw [hm, sitesQ, if_neg (by rw [hb]; decide)] at hI
        rw [hor] at q1 hzb
        clear hor
        generalize szR st = z at *
        obtain ⟨sz, s2⟩ := z
        simp only at q1 hzb hI
        obtain ⟨size, rfl⟩ := Int.eq_ofNat_of_zero_le hzb.1
        rw [Int.toNat_natCast] at hI
        have q2 := r5read_spec (s2.b.take size)
        have hsv : ∀ t : Sit, sitV t = .agg [.int .i64 t.id, .sl 3 (t.groups.map grpV), .sl 1 (sets t.apart), .sl 1 (rows t.between), .sl 5 (t.phases.map phaV), .sl 4 (t.eyes.map eyeV), .int .i64 t.watch, .int .i64 t.feed, .int .i64 t.heal, .int .i64 t.low, .int .i64 t.high, .sl 3 (t.plans.map plnV)] := fun _ => rfl
        have hmp : (L ++ [readS (s2.b.take size)]).map sitV = L.map sitV ++ [sitV (readS (s2.b.take size))] := by simp
        rw [hsv] at q2
        rw [hsv (readS (s2.b.take size))] at hmp
        clear hsv hQ
        generalize readS (s2.b.take size) = t at *
        generalize readE (s2.b.take size) = te at *
        simp (disch := omega) [go_sem, rq, nb6, hp6, hd, ht, bts_len, bts_take, bts_drop, hkk, hb]
        refine callK_ref q1 [(0, some 176)] [176] [] [] ?_ ?_ ?_ (.inl ⟨rfl, .inl rfl⟩) (fun _ => ?_)
        · simp [go_sem, rq, nb6, hp6, hd, ht, bts_len, bts_take, bts_drop, hb]
        · simp [go_sem, rq, nb6, hp6, hd, ht, bts_len, bts_take, bts_drop, hb]
        · simp [go_sem, rq, nb6, hp6, hd, ht, bts_len, bts_take, bts_drop, hb]
        simp (disch := omega) [go_sem, rq, nb6, hp6, hd, ht, bts_len, bts_take, bts_drop, hb]
        refine br_of (fun h2 => ?_) (fun h2 => ?_) <;> simp at h2
        · rw [if_pos (by omega)] at hI
          rw [(hno (hnone (by rw [hI]; rfl))).1, (hno (hnone (by rw [hI]; rfl))).2, hz]
          simp (disch := omega) [go_sem, rq, nb6, hp6, hd, ht, bts_len, bts_take, bts_drop]
        · rw [if_neg (by omega)] at hI
          simp (disch := omega) [go_sem, rq, nb6, hp6, hd, ht, bts_len, bts_take, bts_drop, bts_take]
          refine ⟨by omega, ?_⟩
          refine callK_data q2 [] (by simp [go_sem, rq, nb6, hp6, hd, ht, bts_len, bts_take, bts_drop]) (.inl rfl) (by simp [go_sem, rq, nb6, hp6, hd, ht, bts_len, bts_take, bts_drop]) (fun _ => ?_)
          simp (disch := omega) [go_sem, rq, nb6, hp6, hd, ht, bts_len, bts_take, bts_drop]
          refine br_of (fun h3 => ?_) (fun h3 => ?_) <;> simp at h3
          · rw [if_pos (by omega)] at hI
            rw [(hno (hnone (by rw [hI]; rfl))).1, (hno (hnone (by rw [hI]; rfl))).2, hz]
            simp (disch := omega) [go_sem, rq, nb6, hp6, hd, ht, bts_len, bts_take, bts_drop]
          · rw [if_neg (by omega)] at hI
            simp (disch := omega) [go_sem, rq, nb6, hp6, hd, ht, bts_len, bts_take, bts_drop, bts_take, bts_drop]
            refine ⟨⟨by omega, by omega, by omega⟩, by omega, ?_⟩
            refine round_of (k + 1, L ++ [t], ⟨s2.b.drop size, s2.bad⟩) ⟨by simp only; omega, by simp [hlk], by simp only [List.length_drop]; omega, ?_⟩ (by simp only; omega) (Le.mk [(0, some 0), (176, some 176), (208, some 208), (1001, some 1001)] [0, 176, 208, 1001] ⟨rfl, rfl, rfl⟩ ?_ ?_ ?_)
            · simp only
              rw [hI, hmk]
              cases sitesQ m ⟨s2.b.drop size, s2.bad⟩ <;> simp
            all_goals simp only [hmp]
            all_goals simp [go_sem, rq, nb6, hp6]
            all_goals exact vsLe_append (vsLe_self _ (sits_pure _)) (by simp [go_sem])

set_option maxHeartbeats 4000000 in
theorem nbytes_spec (n : NetN) (b : List UInt8) : FnD Tryz.prog 3 [netV n, .sl 1 (bts b)] (.bool true) tabG := by
  have hnv : ∀ n, netV n = .agg [.sl 12 (n.sites.map sitV), .sl 2 (n.subs.map subV), .sl 4 (n.weds.map wedV), .int .i64 n.low, .int .i64 n.high, .int .i64 n.step] := fun _ => rfl
  have q1 := greatN_spec n
  have q2 := ntwin_spec n
  have q3 := nwrite_spec n
  have q4 := r6write_spec n
  have q5 := nread_spec b
  have q6 := r6read_spec b
  have q7 := rnsame_spec (readNS b)
  have q8 := rnsame_spec n
  rw [hnv] at q1 q2 q3 q4 q5 q6 q7 q8 ⊢
  generalize readNS b = t at *
  generalize readNE b = te at *
  generalize netE n = wv at *
  generalize netN n = we at *
  generalize greatN n = g at *
  refine fnD_of mixed Tryz.func3 rfl rfl (by simp [Tryz.ntmps3]) fun hwf E => ?_
  simp (disch := omega) [go_sem, bytesV_bts, strV, baList] at hwf
  simp (disch := omega) [Tryz.ntmps3, go_sem, bytesV_bts, strV, baList]
  refine callK_bool q1 [] (by simp [go_sem, bytesV_bts, strV, baList]) (fun h1 => ?_) (fun h1 => ?_) <;> try simp [inN] at h1
  · simp (disch := omega) [go_sem, bytesV_bts, strV, baList]
  · simp (disch := omega) [go_sem, bytesV_bts, strV, baList]
    refine br_of (fun h3 => ?_) (fun h3 => ?_) <;> simp at h3
    · simp (disch := omega) [go_sem, bytesV_bts, strV, baList]
    · have q2 := q2 h1
      simp (disch := omega) [go_sem, bytesV_bts, strV, baList]
      refine callK_data q2 [] (by simp [go_sem, bytesV_bts, strV, baList]) (.inl rfl) (by simp [go_sem, bytesV_bts, strV, baList]) (fun _ => ?_)
      simp (disch := omega) [go_sem, bytesV_bts, strV, baList]
      refine ⟨by omega, ?_⟩
      refine callK_data q3 [] (by simp [go_sem, bytesV_bts, strV, baList]) (.inl rfl) (by simp [go_sem, bytesV_bts, strV, baList]) (fun _ => ?_) (by simp [tabG, go_sem])
      simp (disch := omega) [go_sem, bytesV_bts, strV, baList]
      refine callK_data q4 [] (by simp [go_sem, bytesV_bts, strV, baList]) (.inl rfl) (by simp [go_sem, bytesV_bts, strV, baList]) (fun _ => ?_)
      simp (disch := omega) [go_sem, bytesV_bts, strV, baList]
      refine callK_frz q5 [224] [(224, ⟨.ro, 5, 1, bts b⟩)] (by simp [go_sem, bytesV_bts, strV, baList]) (by simp [go_sem, bytesV_bts, strV, baList]) (by simp [go_sem, bytesV_bts, strV, baList]) (fun _ => ?_) (by simp [tabG, go_sem])
      simp (disch := omega) [go_sem, bytesV_bts, strV, baList]
      refine callK_data q6 [] (by simp [go_sem, bytesV_bts, strV, baList]) (.inl rfl) (by simp [go_sem, bytesV_bts, strV, baList]) (fun _ => ?_)
      simp (disch := omega) [go_sem, bytesV_bts, strV, baList]
      refine callK_data q7 [] (by simp [go_sem, bytesV_bts, strV, baList]) (.inl rfl) (by simp [go_sem, bytesV_bts, strV, baList]) (fun _ => ?_)
      simp (disch := omega) [go_sem, bytesV_bts, strV, baList]
      refine callK_data q8 [] (by simp [go_sem, bytesV_bts, strV, baList]) (.inl rfl) (by simp [go_sem, bytesV_bts, strV, baList]) (fun _ => ?_)
      simp (disch := omega) [go_sem, bytesV_bts, strV, baList]
end Go.Proofs.YtdeionjkcmpnpaaGreatDoor
