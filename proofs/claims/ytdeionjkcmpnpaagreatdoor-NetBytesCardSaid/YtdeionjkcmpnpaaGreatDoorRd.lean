
/- The reader of the layer site: numbers, times. -/
import Derived.Test.YtdeionjkcmpnpaaGreatDoorRdL
set_option linter.unusedSimpArgs false
set_option linter.unusedVariables false
namespace Go.Proofs.YtdeionjkcmpnpaaGreatDoor
open Go.AM Go.RowKit
set_option maxRecDepth 100000

def rdO (s : RdS) (rest : List V) : AM.Obj := ⟨.box, 221, 14, [.agg (.sl 1 (bts s.b) :: .bool s.bad :: rest)]⟩
theorem oneF_none {l : List UInt8} {bad : Bool} {most : Int} (h : readN l = none) : oneF ⟨l, bad⟩ most = (0, ⟨l, true⟩) := by unfold oneF; simp only [h]
theorem oneF_big {l : List UInt8} {bad : Bool} {most : Int} {n k : Nat} (h : readN l = some (n, k)) (hm : most < (n : Int)) : oneF ⟨l, bad⟩ most = (0, ⟨l, true⟩) := by unfold oneF; simp only [h]; rw [if_neg (by omega)]
theorem oneF_fit {l : List UInt8} {bad : Bool} {most : Int} {n k : Nat} (h : readN l = some (n, k)) (hm : (n : Int) ≤ most) : oneF ⟨l, bad⟩ most = ((n : Int), ⟨l.drop k, bad⟩) := by unfold oneF; simp only [h]; rw [if_pos hm]

set_option maxHeartbeats 1000000 in
theorem one0_spec (s : RdS) (most : Int) (rest : List V) (hr : pures rest) (hm : 0 ≤ most) :
    FnR Tryz.prog 202 [rdO s rest] [.ptr 0 1 0 0, .int .i64 most] [rdO (oneF s most).2 rest] (.int .i64 (oneF s most).1) := by
  obtain ⟨l, bad⟩ := s
  have hp := bts_pure l
  have q := rawRead_spec l
  refine fnR_of mixed Tryz.func202 rfl rfl (by simp [Tryz.ntmps202]) (by simp) fun hwf E => ?_
  simp (disch := omega) [go_sem] at hwf
  have hmw := w64 (m := most.toNat) (by omega)
  rw [Int.toNat_of_nonneg hm] at hmw
  cases hn : readN l with
  | none =>
    rw [hn] at q
    rw [oneF_none hn]
    simp only [readO] at q
    simp (disch := omega) [Tryz.ntmps202, go_sem, rdO]
    refine callK_data q [] (by simp [go_sem, hp]) (.inl rfl) (by simp [go_sem]) (fun _ => ?_)
    simp (disch := omega) [go_sem, hmw]
    refine Le.mk [(0, some 0)] [0] ⟨rfl, rfl, rfl⟩ ?_ ?_ ?_ <;> simp [go_sem, hp, hr]
  | some p =>
    obtain ⟨n, k⟩ := p
    obtain ⟨hk0, hkl⟩ := readN_le hn
    have hpd := bts_pure (l.drop k)
    rw [hn] at q
    simp only [readO] at q
    by_cases hc : (n : Int) ≤ most
    · rw [oneF_fit hn hc]
      simp (disch := omega) [Tryz.ntmps202, go_sem, rdO]
      refine callK_data q [] (by simp [go_sem, hp]) (.inl rfl) (by simp [go_sem]) (fun _ => ?_)
      simp (disch := omega) [go_sem, hmw]
      refine br_of (fun h => ?_) (fun h => ?_) <;> simp at h
      · omega
      · simp (disch := omega) [go_sem, bts_len, bts_drop, bts_take, List.take_of_length_le]
        exact ⟨hkl, Le.mk [(0, some 0)] [0] ⟨rfl, rfl, rfl⟩ (by simp [go_sem]) (by simp [go_sem, hpd, hr]) (by simp [go_sem, hr])⟩
    · rw [oneF_big hn (by omega)]
      simp (disch := omega) [Tryz.ntmps202, go_sem, rdO]
      refine callK_data q [] (by simp [go_sem, hp]) (.inl rfl) (by simp [go_sem]) (fun _ => ?_)
      simp (disch := omega) [go_sem, hmw]
      refine br_of (fun h => ?_) (fun h => ?_) <;> simp at h
      · simp (disch := omega) [go_sem]
        refine Le.mk [(0, some 0)] [0] ⟨rfl, rfl, rfl⟩ ?_ ?_ ?_ <;> simp [go_sem, hp, hr]
      · omega

set_option maxHeartbeats 1000000 in
theorem one1_spec (s : RdS) (most : Int) (rest : List V) (hr : ∀ hp σ B, σ 1 = some (some 1) → vsLe hp σ B rest rest) (hr2 : ∀ τ : Nat → Nat, τ 1 = 1 → rens τ rest = rest) (T1 e1 : Nat) (xs1 : List V) (hx1 : pures xs1) (he1 : 0 < e1) (hm : 0 ≤ most) :
    FnR Tryz.prog 202 [rdO s rest, ⟨.arr, T1, e1, xs1⟩] [.ptr 0 1 0 0, .int .i64 most] [rdO (oneF s most).2 rest, ⟨.arr, T1, e1, xs1⟩] (.int .i64 (oneF s most).1) := by
  obtain ⟨l, bad⟩ := s
  have hp := bts_pure l
  have q := rawRead_spec l
  refine fnR_of mixed Tryz.func202 rfl rfl (by simp [Tryz.ntmps202]) (by simp) fun hwf E => ?_
  simp (disch := omega) [go_sem] at hwf
  have hmw := w64 (m := most.toNat) (by omega)
  rw [Int.toNat_of_nonneg hm] at hmw
  cases hn : readN l with
  | none =>
    rw [hn] at q
    rw [oneF_none hn]
    simp only [readO] at q
    simp (disch := omega) [Tryz.ntmps202, go_sem, rdO]
    refine callK_data q [] (by simp [go_sem, hp]) (.inl rfl) (by simp [go_sem]) (fun _ => ?_)
    simp (disch := omega) [go_sem, hmw]
    refine Le.mk [(0, some 0), (1, some 1)] [0, 1] ⟨rfl, rfl, rfl⟩ ?_ ?_ ?_ <;> simp [go_sem, hp, hr, hr2, hx1]
  | some p =>
    obtain ⟨n, k⟩ := p
    obtain ⟨hk0, hkl⟩ := readN_le hn
    have hpd := bts_pure (l.drop k)
    rw [hn] at q
    simp only [readO] at q
    by_cases hc : (n : Int) ≤ most
    · rw [oneF_fit hn hc]
      simp (disch := omega) [Tryz.ntmps202, go_sem, rdO]
      refine callK_data q [] (by simp [go_sem, hp]) (.inl rfl) (by simp [go_sem]) (fun _ => ?_)
      simp (disch := omega) [go_sem, hmw]
      refine br_of (fun h => ?_) (fun h => ?_) <;> simp at h
      · omega
      · simp (disch := omega) [go_sem, bts_len, bts_drop, bts_take, List.take_of_length_le]
        exact ⟨hkl, Le.mk [(0, some 0), (1, some 1)] [0, 1] ⟨rfl, rfl, rfl⟩ (by simp [go_sem]) (by simp [go_sem, hpd, hr, hr2, hx1]) (by simp [go_sem, hr, hr2, hx1])⟩
    · rw [oneF_big hn (by omega)]
      simp (disch := omega) [Tryz.ntmps202, go_sem, rdO]
      refine callK_data q [] (by simp [go_sem, hp]) (.inl rfl) (by simp [go_sem]) (fun _ => ?_)
      simp (disch := omega) [go_sem, hmw]
      refine br_of (fun h => ?_) (fun h => ?_) <;> simp at h
      · simp (disch := omega) [go_sem]
        refine Le.mk [(0, some 0), (1, some 1)] [0, 1] ⟨rfl, rfl, rfl⟩ ?_ ?_ ?_ <;> simp [go_sem, hp, hr, hr2, hx1]
      · omega

set_option maxHeartbeats 1000000 in
theorem times0_spec (s : RdS) (n : Nat) (rest : List V) (hr : pures rest) (hn : n ≤ 1048576) :
    FnR Tryz.prog 203 [rdO s rest] [.ptr 0 1 0 0, .int .i64 (n : Int)] [rdO (timesR n s).2 rest] (.sl 1 (ints (timesR n s).1)) := by
  refine fnR_of mixed Tryz.func203 rfl rfl (by simp [Tryz.ntmps203]) (by simp) fun hwf E => ?_
  have hp := bts_pure s.b
  simp (disch := omega) [Tryz.ntmps203, go_sem]
  refine awz_loop mixed (fun k : Nat => ⟨[(7, .int .i64 k), (6, .int .i64 n), (5, .obj 1104 k), (0, .ptr 0 1 0 0)], [(1104, ⟨.arr, 3, 1, ints (timesR k s).1⟩), (0, rdO (timesR k s).2 rest)], 2048, [], 16, 1, []⟩)
    (fun k => k ≤ n) (fun k => n - k) 0 (by omega) ?_ ?_
  · refine Le.mk [(0, some 0), (1104, none)] [0] ⟨rfl, rfl, rfl⟩ ?_ ?_ ?_ <;> simp [go_sem, rdO, timesR, repF, ints, hp, hr]
  · intro k hk
    have hpk := bts_pure (timesR k s).2.b
    have hpk1 := bts_pure (timesR (k + 1) s).2.b
    have hlk : (timesR k s).1.length = k := repF_len _ _ _
    have hpi := ints_pure (timesR k s).1
    have hpi1 := ints_pure (timesR (k + 1) s).1
    have q := one0_spec (timesR k s).2 1048576 rest hr (by omega)
    have hs : timesR (k + 1) s = ((timesR k s).1 ++ [(oneF (timesR k s).2 1048576).1], (oneF (timesR k s).2 1048576).2) := repF_snoc _ _ _
    have hia : ints (timesR (k + 1) s).1 = ints (timesR k s).1 ++ [.int .i64 (oneF (timesR k s).2 1048576).1] := by rw [hs]; simp [ints]
    have hs2 : (oneF (timesR k s).2 1048576).2 = (timesR (k + 1) s).2 := by rw [hs]
    rw [hs2] at q
    simp (disch := omega) [go_sem]
    refine br_of (fun h => ?_) (fun h => ?_) <;> simp at h
    · simp (disch := omega) [go_sem]
      refine callK_ref q [(0, some 0)] [0] [] [] ?_ ?_ ?_ (.inl ⟨rfl, .inl rfl⟩) (fun _ => ?_)
      · simp [go_sem]
      · simp [go_sem, rdO, hpk, hr]
      · simp [go_sem, rdO]
      simp (disch := omega) [go_sem, rdO, ints_len, hlk]
      refine ⟨by omega, round_of (k + 1) (by omega) (by omega) (Le.mk [(0, some 0), (1104, some 1104)] [0, 1104] ⟨rfl, rfl, rfl⟩ ?_ ?_ ?_)⟩ <;> simp [go_sem, rdO, hpk1, hia, hpi, hr]
    · have hkn : k = n := by omega
      subst hkn
      simp (disch := omega) [go_sem]
      refine Le.mk [(0, some 0)] [0] ⟨rfl, rfl, rfl⟩ ?_ ?_ ?_ <;> simp [go_sem, rdO, hpk, hlk, ints_len, hpi, hr]

set_option maxHeartbeats 1000000 in
theorem times1_spec (s : RdS) (n : Nat) (rest : List V) (hr : ∀ hp σ B, σ 1 = some (some 1) → vsLe hp σ B rest rest) (hr2 : ∀ τ : Nat → Nat, τ 1 = 1 → rens τ rest = rest) (T1 e1 : Nat) (xs1 : List V) (hx1 : pures xs1) (he1 : 0 < e1) (hn : n ≤ 1048576) :
    FnR Tryz.prog 203 [rdO s rest, ⟨.arr, T1, e1, xs1⟩] [.ptr 0 1 0 0, .int .i64 (n : Int)] [rdO (timesR n s).2 rest, ⟨.arr, T1, e1, xs1⟩] (.sl 1 (ints (timesR n s).1)) := by
  refine fnR_of mixed Tryz.func203 rfl rfl (by simp [Tryz.ntmps203]) (by simp) fun hwf E => ?_
  have hp := bts_pure s.b
  simp (disch := omega) [Tryz.ntmps203, go_sem]
  refine awz_loop mixed (fun k : Nat => ⟨[(7, .int .i64 k), (6, .int .i64 n), (5, .obj 1104 k), (0, .ptr 0 1 0 0)], [(1104, ⟨.arr, 3, 1, ints (timesR k s).1⟩), (0, rdO (timesR k s).2 rest), (1, ⟨.arr, T1, e1, xs1⟩)], 2048, [], 16, 2, []⟩)
    (fun k => k ≤ n) (fun k => n - k) 0 (by omega) ?_ ?_
  · refine Le.mk [(0, some 0), (1, some 1), (1104, none)] [0, 1] ⟨rfl, rfl, rfl⟩ ?_ ?_ ?_ <;> simp [go_sem, rdO, timesR, repF, ints, hp, hr, hr2, hx1]
  · intro k hk
    have hpk := bts_pure (timesR k s).2.b
    have hpk1 := bts_pure (timesR (k + 1) s).2.b
    have hlk : (timesR k s).1.length = k := repF_len _ _ _
    have hpi := ints_pure (timesR k s).1
    have hpi1 := ints_pure (timesR (k + 1) s).1
    have q := one1_spec (timesR k s).2 1048576 rest hr hr2 T1 e1 xs1 hx1 he1 (by omega)
    have hs : timesR (k + 1) s = ((timesR k s).1 ++ [(oneF (timesR k s).2 1048576).1], (oneF (timesR k s).2 1048576).2) := repF_snoc _ _ _
    have hia : ints (timesR (k + 1) s).1 = ints (timesR k s).1 ++ [.int .i64 (oneF (timesR k s).2 1048576).1] := by rw [hs]; simp [ints]
    have hs2 : (oneF (timesR k s).2 1048576).2 = (timesR (k + 1) s).2 := by rw [hs]
    rw [hs2] at q
    simp (disch := omega) [go_sem]
    refine br_of (fun h => ?_) (fun h => ?_) <;> simp at h
    · simp (disch := omega) [go_sem]
      refine callK_ref q [(0, some 0), (1, some 1)] [0, 1] [] [] ?_ ?_ ?_ (.inl ⟨rfl, .inl rfl⟩) (fun _ => ?_)
      · simp [go_sem]
      · simp [go_sem, rdO, hpk, hr, hr2, hx1]
      · simp [go_sem, rdO]
      simp (disch := omega) [go_sem, rdO, ints_len, hlk]
      refine ⟨by omega, round_of (k + 1) (by omega) (by omega) (Le.mk [(0, some 0), (1, some 1), (1104, some 1104)] [0, 1, 1104] ⟨rfl, rfl, rfl⟩ ?_ ?_ ?_)⟩ <;> simp [go_sem, rdO, hpk1, hia, hpi, hr, hr2, hx1]
    · have hkn : k = n := by omega
      subst hkn
      simp (disch := omega) [go_sem]
      refine Le.mk [(0, some 0), (1, some 1)] [0, 1] ⟨rfl, rfl, rfl⟩ ?_ ?_ ?_ <;> simp [go_sem, rdO, hpk, hlk, ints_len, hpi, hr, hr2, hx1]

end Go.Proofs.YtdeionjkcmpnpaaGreatDoor
