
/- The reference stoplineref05's reader: numbers, plans. -/
import Derived.Test.YtdeionjkcmpnpaaGreatDoorIn5
set_option linter.unusedSimpArgs false
set_option linter.unusedVariables false
namespace Go.Proofs.YtdeionjkcmpnpaaGreatDoor
open Go.AM Go.RowKit
set_option maxRecDepth 100000

def rq (s : RdS) : AM.Obj := ⟨.box, 112, 2, [.agg [.sl 1 (bts s.b), .bool s.bad]]⟩
set_option maxHeartbeats 1000000 in
theorem r5num_spec (s : RdS) (most : Int) (hm : 0 ≤ most) :
    FnR Tryz.prog 46 [rq s] [.ptr 0 1 0 0, .int .i64 most] [rq (oneF s most).2] (.int .i64 (oneF s most).1) := by
  obtain ⟨l, bad⟩ := s
  have q := r3read_spec l
  refine fnR_of mixed Tryz.func46 rfl rfl (by simp [Tryz.ntmps46]) (by simp) fun hwf E => ?_
  simp (disch := omega) [go_sem, rq] at hwf
  simp (disch := omega) [Tryz.ntmps46, go_sem, rq]
  have hmw := w64 (m := most.toNat) (by omega)
  rw [Int.toNat_of_nonneg hm] at hmw
  cases hn : readN l with
  | none =>
    rw [hn] at q
    rw [oneF_none hn]
    simp only [readO] at q
    refine callK_data q [] (by simp [go_sem, rq, hmw]) (.inl rfl) (by simp [go_sem, rq, hmw]) (fun _ => ?_)
    simp (disch := omega) [go_sem, rq, hmw]
    refine Le.mk [(0, some 0)] [0] ⟨rfl, rfl, rfl⟩ ?_ ?_ ?_ <;> simp [go_sem, rq, hmw]
  | some p =>
    obtain ⟨n, k⟩ := p
    obtain ⟨hk0, hkl⟩ := readN_le hn
    rw [hn] at q
    simp only [readO] at q
    by_cases hc : (n : Int) ≤ most
    · rw [oneF_fit hn hc]
      refine callK_data q [] (by simp [go_sem, rq, hmw]) (.inl rfl) (by simp [go_sem, rq, hmw]) (fun _ => ?_)
      simp (disch := omega) [go_sem, rq, hmw]
      refine br_of (fun h => ?_) (fun h => ?_) <;> simp at h
      · omega
      · have htl : ∀ l : List UInt8, List.take l.length l = l := fun l => List.take_length
        simp (disch := omega) [go_sem, rq, hmw, bts_drop, bts_take, htl]
        refine ⟨by omega, ?_⟩
        refine Le.mk [(0, some 0)] [0] ⟨rfl, rfl, rfl⟩ ?_ ?_ ?_ <;> simp [go_sem, rq, hmw, bts_drop, bts_take, List.take_of_length_le]
    · rw [oneF_big hn (by omega)]
      refine callK_data q [] (by simp [go_sem, rq, hmw]) (.inl rfl) (by simp [go_sem, rq, hmw]) (fun _ => ?_)
      simp (disch := omega) [go_sem, rq, hmw]
      refine br_of (fun h => ?_) (fun h => ?_) <;> simp at h
      · simp (disch := omega) [go_sem, rq, hmw]
        refine Le.mk [(0, some 0)] [0] ⟨rfl, rfl, rfl⟩ ?_ ?_ ?_ <;> simp [go_sem, rq, hmw]
      · omega
theorem rq_ok {α : Type} {f : RdS → α × RdS} {s : RdS} {n k : Nat} (hk : k ≤ n) (hl : (repQ f k s).1.length = k) : ((repQ f k s).2.bad = true → repQ f n s = repQ f k s) ∧ ((repQ f k s).2.bad = false → repQ f (k + 1) s = ((repQ f k s).1 ++ [(f (repQ f k s).2).1], (f (repQ f k s).2).2) ∧ (repQ f (k + 1) s).1.length = k + 1) :=
  ⟨fun h => repQ_stop f k n s h hk, fun h => by have e := repQ_snoc f k s h; exact ⟨e, by rw [e]; simp [hl]⟩⟩
set_option maxHeartbeats 4000000 in
theorem r5plans_spec (s : RdS) : FnR Tryz.prog 161 [rq s] [.ptr 0 1 0 0] [rq (plansQ s).2] (.sl 3 ((plansQ s).1.map plnV)) := by
  have q0 := r5num_spec s 8 (by omega)
  have hm := oneF_in s (most := 8) (by omega)
  have hpl : plansQ s = repQ planQ (oneF s 8).1.toNat (oneF s 8).2 := rfl
  rw [hpl]
  generalize oneF s 8 = o at *
  obtain ⟨m, s1⟩ := o
  simp only at hm q0 ⊢
  obtain ⟨n, rfl⟩ := Int.eq_ofNat_of_zero_le hm.1
  refine fnR_of mixed Tryz.func161 rfl rfl (by simp [Tryz.ntmps161]) (by simp) fun hwf E => ?_
  clear hwf
  simp (disch := omega) [Tryz.ntmps161, go_sem, rq]
  refine callK_ref q0 [(0, some 0)] [0] [] [] ?_ ?_ ?_ (.inl ⟨rfl, .inl rfl⟩) (fun _ => ?_)
  · simp [go_sem, rq]
  · simp [go_sem, rq]
  · simp [go_sem, rq]
  simp (disch := omega) [go_sem, rq]
  refine awz_loop mixed (fun k : Nat => ⟨[(5, .int .i64 k), (4, .int .i64 n), (3, .obj 1001 k), (0, .ptr 0 1 0 0)], [(1001, ⟨.arr, 89, 3, (repQ planQ k s1).1.map plnV⟩), (0, rq (repQ planQ k s1).2)], 1024, [], 55, 1, []⟩) (fun k => k ≤ n ∧ (repQ planQ k s1).1.length = k) (fun k => n - k) 0 ?_ ?_ ?_
  · exact ⟨by omega, rfl⟩
  · refine Le.mk [(0, some 0), (1001, none)] [0] ⟨rfl, rfl, rfl⟩ ?_ ?_ ?_ <;> simp [go_sem, rq, repQ]
  · rintro k ⟨hk, hlk⟩
    obtain ⟨g1, g2⟩ := rq_ok (f := planQ) hk hlk
    by_cases hkn : k = n
    · subst hkn
      have hd : ¬ k < k := by omega
      simp (disch := omega) [go_sem, rq, hd, hlk]
      refine Le.mk [(0, some 0)] [0] ⟨rfl, rfl, rfl⟩ ?_ ?_ ?_ <;> simp [go_sem, rq, hlk]
    · cases hb : (repQ planQ k s1).2.bad with
      | true =>
        rw [g1 hb]
        simp (disch := omega) [go_sem, rq, hb]
        refine Le.mk [(0, some 0)] [0] ⟨rfl, rfl, rfl⟩ ?_ ?_ ?_ <;> simp [go_sem, rq, hlk]
      | false =>
        have hd : k < n := by omega
        obtain ⟨e1, e2⟩ := g2 hb
        have hp1 : ∀ st, (planQ st).1 = ⟨(pC st).1, (pO st).1, (repQ (fun s => oneF s 1048576) (pM st).1.toNat (pM st).2).1⟩ := fun _ => rfl
        have hp2 : ∀ st, (planQ st).2 = (repQ (fun s => oneF s 1048576) (pM st).1.toNat (pM st).2).2 := fun _ => rfl
        rw [hp1, hp2] at e1
        clear hp1 hp2 g1 g2 hpl
        generalize hst : (repQ planQ k s1).2 = st at *
        generalize hL : (repQ planQ k s1).1 = L at *
        have q1 := r5num_spec st 1048576 (by omega)
        have q2 := r5num_spec (pC st).2 1048576 (by omega)
        have q3 := r5num_spec (pO st).2 8 (by omega)
        have h3 := oneF_in (pO st).2 (most := 8) (by omega)
        have c1 : oneF st 1048576 = pC st := rfl
        have c2 : oneF (pC st).2 1048576 = pO st := rfl
        have c3 : oneF (pO st).2 8 = pM st := rfl
        rw [c1] at q1; rw [c2] at q2; rw [c3] at q3 h3
        clear c1 c2 c3
        generalize pM st = vm at *
        obtain ⟨m, s4⟩ := vm
        simp only at h3 q3 e1
        obtain ⟨N, rfl⟩ := Int.eq_ofNat_of_zero_le h3.1
        rw [Int.toNat_natCast] at e1
        have e11 : (repQ planQ (k + 1) s1).1.map plnV = L.map plnV ++ [.agg [.int .i64 (pC st).1, .int .i64 (pO st).1, .sl 1 (ints (repQ (fun s => oneF s 1048576) N s4).1)]] := by rw [e1]; simp [plnV]
        have e12 : (repQ planQ (k + 1) s1).2 = (repQ (fun s => oneF s 1048576) N s4).2 := by rw [e1]
        clear e1
        generalize pC st = vc at *
        generalize pO st = vo at *
        simp (disch := omega) [go_sem, rq, hd, hb]
        refine callK_ref q1 [(0, some 0)] [0] [] [] ?_ ?_ ?_ (.inl ⟨rfl, .inl rfl⟩) (fun _ => ?_)
        · simp [go_sem, rq, hb]
        · simp [go_sem, rq, hb]
        · simp [go_sem, rq, hb]
        simp (disch := omega) [go_sem, rq, hb]
        refine callK_ref q2 [(0, some 0)] [0] [] [] ?_ ?_ ?_ (.inl ⟨rfl, .inl rfl⟩) (fun _ => ?_)
        · simp [go_sem, rq]
        · simp [go_sem, rq]
        · simp [go_sem, rq]
        simp (disch := omega) [go_sem, rq]
        refine callK_ref q3 [(0, some 0)] [0] [] [] ?_ ?_ ?_ (.inl ⟨rfl, .inl rfl⟩) (fun _ => ?_)
        · simp [go_sem, rq]
        · simp [go_sem, rq]
        · simp [go_sem, rq]
        simp (disch := omega) [go_sem, rq]
        refine awz_loop mixed (fun j : Nat => ⟨[(8, .int .i64 j), (7, .int .i64 N), (6, .ptr 1232 1 0 0), (5, .int .i64 k), (4, .int .i64 n), (3, .obj 1001 k), (0, .ptr 0 1 0 0)], [(1001, ⟨.arr, 89, 3, L.map plnV⟩), (1002, ⟨.arr, 3, 1, ints (repQ (fun s => oneF s 1048576) j s4).1⟩), (1232, ⟨.box, 89, 3, [.agg [.int .i64 vc.1, .int .i64 vo.1, .obj 1002 j]]⟩), (0, rq (repQ (fun s => oneF s 1048576) j s4).2)], 2048, [], 55, 1, []⟩) (fun j => j ≤ N ∧ (repQ (fun s => oneF s 1048576) j s4).1.length = j) (fun j => N - j) 0 ?_ ?_ ?_
        · exact ⟨by omega, rfl⟩
        · refine Le.mk [(0, some 0), (1001, some 1001), (1232, some 1232), (1002, none)] [0, 1001, 1232] ⟨rfl, rfl, rfl⟩ ?_ ?_ ?_ <;> simp [go_sem, rq, repQ, ints_nil]
        · rintro j ⟨hj, hlj⟩
          obtain ⟨f1, f2⟩ := rq_ok (f := fun s => oneF s 1048576) hj hlj
          have hfin : ((repQ (fun s => oneF s 1048576) j s4) = repQ (fun s => oneF s 1048576) N s4) → True := fun _ => trivial
          by_cases hjn : j = N
          · subst hjn
            have hd2 : ¬ j < j := by omega
            simp (disch := omega) [go_sem, rq, hd2]
            refine ⟨⟨by omega, by omega, by omega⟩, ?_⟩
            refine round_of (k + 1) (⟨by omega, e2⟩) (by omega) (Le.mk [(0, some 0), (1001, some 1001)] [0, 1001] ⟨rfl, rfl, rfl⟩ ?_ ?_ ?_) <;> simp [go_sem, rq, e11, e12, hlj]
            exact vsLe_append (vsLe_self _ (plns_pure _)) (by simp [go_sem, hlj])
          · cases hb2 : (repQ (fun s => oneF s 1048576) j s4).2.bad with
            | true =>
              have f1 := f1 hb2
              rw [f1] at e11 e12
              simp (disch := omega) [go_sem, rq, hb2]
              refine ⟨⟨by omega, by omega, by omega⟩, ?_⟩
              refine round_of (k + 1) (⟨by omega, e2⟩) (by omega) (Le.mk [(0, some 0), (1001, some 1001)] [0, 1001] ⟨rfl, rfl, rfl⟩ ?_ ?_ ?_) <;> simp [go_sem, rq, e11, e12, hlj, hb2]
              exact vsLe_append (vsLe_self _ (plns_pure _)) (by simp [go_sem, hlj])
            | false =>
              have hd2 : j < N := by omega
              obtain ⟨f2, f3⟩ := f2 hb2
              have q5 := r5num_spec (repQ (fun s => oneF s 1048576) j s4).2 1048576 (by omega)
              have f4 : ints (repQ (fun s => oneF s 1048576) (j + 1) s4).1 = ints (repQ (fun s => oneF s 1048576) j s4).1 ++ [.int .i64 (oneF (repQ (fun s => oneF s 1048576) j s4).2 1048576).1] := by rw [f2]; simp [ints]
              have f5 : (repQ (fun s => oneF s 1048576) (j + 1) s4).2 = (oneF (repQ (fun s => oneF s 1048576) j s4).2 1048576).2 := by rw [f2]
              clear f2
              simp (disch := omega) [go_sem, rq, hd2, hb2]
              refine callK_ref q5 [(0, some 0)] [0] [] [] ?_ ?_ ?_ (.inl ⟨rfl, .inl rfl⟩) (fun _ => ?_)
              · simp [go_sem, rq, hb2]
              · simp [go_sem, rq, hb2]
              · simp [go_sem, rq, hb2]
              simp (disch := omega) [go_sem, rq, hb2]
              refine ⟨⟨by omega, by omega, by omega⟩, .inr ⟨[(1, 3)], by kernel_rfl, by simp [lateAll, lateOne, lateIn, go_sem]⟩, ?_⟩
              refine round_of (j + 1) (⟨by omega, f3⟩) (by omega) (Le.mk [(0, some 0), (1001, some 1001), (1232, some 1232), (1002, some 1002)] [0, 1001, 1232, 1002] ⟨rfl, rfl, rfl⟩ ?_ ?_ ?_) <;> simp [go_sem, rq, f4, f5]
end Go.Proofs.YtdeionjkcmpnpaaGreatDoor
