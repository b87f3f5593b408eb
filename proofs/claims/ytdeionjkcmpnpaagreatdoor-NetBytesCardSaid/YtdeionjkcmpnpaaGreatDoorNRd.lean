
/- The reader of the layer net. -/
import Derived.Test.YtdeionjkcmpnpaaGreatDoorNWr
set_option linter.unusedSimpArgs false
set_option linter.unusedVariables false
namespace Go.Proofs.YtdeionjkcmpnpaaGreatDoor
open Go.AM Go.RowKit
set_option maxRecDepth 100000

def rdP (s : RdS) (rest : List V) : AM.Obj := ⟨.box, 107, 8, [.agg (.sl 1 (bts s.b) :: .bool s.bad :: rest)]⟩
set_option maxHeartbeats 1000000 in
theorem none0_spec (s : RdS) (most : Int) (rest : List V) (hr : pures rest) (hm : 0 ≤ most) :
    FnR Tryz.prog 95 [rdP s rest] [.ptr 0 1 0 0, .int .i64 most] [rdP (oneF s most).2 rest] (.int .i64 (oneF s most).1) := by
  obtain ⟨l, bad⟩ := s
  have hp := bts_pure l
  have q := rawRead_spec l
  refine fnR_of mixed Tryz.func95 rfl rfl (by simp [Tryz.ntmps95]) (by simp) fun hwf E => ?_
  simp (disch := omega) [go_sem] at hwf
  have hmw := w64 (m := most.toNat) (by omega)
  rw [Int.toNat_of_nonneg hm] at hmw
  cases hn : readN l with
  | none =>
    rw [hn] at q
    rw [oneF_none hn]
    simp only [readO] at q
    simp (disch := omega) [Tryz.ntmps95, go_sem, rdP]
    refine callK_data q [] (by simp [go_sem, hp]) (.inl rfl) (by simp [go_sem]) (fun _ => ?_)
    simp (disch := omega) [go_sem, hmw]
    refine Le.mk [(0, some 0)] [0] ⟨rfl, rfl, rfl⟩ ?_ ?_ ?_ <;> simp [go_sem, hp, hr]
  | some p =>
    obtain ⟨n, k⟩ := p
    obtain ⟨hk0, hkl⟩ := readN_le hn
    have hpd := bts_pure (l.drop k)
    rw [hn] at q
    simp only [readO] at q
    by_cases hc : (n : Int) ≤ most
    · rw [oneF_fit hn hc]
      simp (disch := omega) [Tryz.ntmps95, go_sem, rdP]
      refine callK_data q [] (by simp [go_sem, hp]) (.inl rfl) (by simp [go_sem]) (fun _ => ?_)
      simp (disch := omega) [go_sem, hmw]
      refine br_of (fun h => ?_) (fun h => ?_) <;> simp at h
      · omega
      · simp (disch := omega) [go_sem, bts_len, bts_drop, bts_take, List.take_of_length_le]
        exact ⟨hkl, Le.mk [(0, some 0)] [0] ⟨rfl, rfl, rfl⟩ (by simp [go_sem]) (by simp [go_sem, hpd, hr]) (by simp [go_sem, hr])⟩
    · rw [oneF_big hn (by omega)]
      simp (disch := omega) [Tryz.ntmps95, go_sem, rdP]
      refine callK_data q [] (by simp [go_sem, hp]) (.inl rfl) (by simp [go_sem]) (fun _ => ?_)
      simp (disch := omega) [go_sem, hmw]
      refine br_of (fun h => ?_) (fun h => ?_) <;> simp at h
      · simp (disch := omega) [go_sem]
        refine Le.mk [(0, some 0)] [0] ⟨rfl, rfl, rfl⟩ ?_ ?_ ?_ <;> simp [go_sem, hp, hr]
      · omega

set_option maxHeartbeats 1000000 in
theorem none1_spec (s : RdS) (most : Int) (rest : List V) (hr : ∀ hp σ B, σ 1 = some (some 1) → vsLe hp σ B rest rest) (hr2 : ∀ τ : Nat → Nat, τ 1 = 1 → rens τ rest = rest) (T1 e1 : Nat) (xs1 : List V) (hx1 : pures xs1) (he1 : 0 < e1) (hm : 0 ≤ most) :
    FnR Tryz.prog 95 [rdP s rest, ⟨.arr, T1, e1, xs1⟩] [.ptr 0 1 0 0, .int .i64 most] [rdP (oneF s most).2 rest, ⟨.arr, T1, e1, xs1⟩] (.int .i64 (oneF s most).1) := by
  obtain ⟨l, bad⟩ := s
  have hp := bts_pure l
  have q := rawRead_spec l
  refine fnR_of mixed Tryz.func95 rfl rfl (by simp [Tryz.ntmps95]) (by simp) fun hwf E => ?_
  simp (disch := omega) [go_sem] at hwf
  have hmw := w64 (m := most.toNat) (by omega)
  rw [Int.toNat_of_nonneg hm] at hmw
  cases hn : readN l with
  | none =>
    rw [hn] at q
    rw [oneF_none hn]
    simp only [readO] at q
    simp (disch := omega) [Tryz.ntmps95, go_sem, rdP]
    refine callK_data q [] (by simp [go_sem, hp]) (.inl rfl) (by simp [go_sem]) (fun _ => ?_)
    simp (disch := omega) [go_sem, hmw]
    refine Le.mk [(0, some 0), (1, some 1)] [0, 1] ⟨rfl, rfl, rfl⟩ ?_ ?_ ?_ <;> simp [go_sem, hp, hr, hr2, hx1]
  | some p =>
    obtain ⟨n, k⟩ := p
    obtain ⟨hk0, hkl⟩ := readN_le hn
    have hpd := bts_pure (l.drop k)
    rw [hn] at q
    simp only [readO] at q
    by_cases hc : (n : Int) ≤ most
    · rw [oneF_fit hn hc]
      simp (disch := omega) [Tryz.ntmps95, go_sem, rdP]
      refine callK_data q [] (by simp [go_sem, hp]) (.inl rfl) (by simp [go_sem]) (fun _ => ?_)
      simp (disch := omega) [go_sem, hmw]
      refine br_of (fun h => ?_) (fun h => ?_) <;> simp at h
      · omega
      · simp (disch := omega) [go_sem, bts_len, bts_drop, bts_take, List.take_of_length_le]
        exact ⟨hkl, Le.mk [(0, some 0), (1, some 1)] [0, 1] ⟨rfl, rfl, rfl⟩ (by simp [go_sem]) (by simp [go_sem, hpd, hr, hr2, hx1]) (by simp [go_sem, hr, hr2, hx1])⟩
    · rw [oneF_big hn (by omega)]
      simp (disch := omega) [Tryz.ntmps95, go_sem, rdP]
      refine callK_data q [] (by simp [go_sem, hp]) (.inl rfl) (by simp [go_sem]) (fun _ => ?_)
      simp (disch := omega) [go_sem, hmw]
      refine br_of (fun h => ?_) (fun h => ?_) <;> simp at h
      · simp (disch := omega) [go_sem]
        refine Le.mk [(0, some 0), (1, some 1)] [0, 1] ⟨rfl, rfl, rfl⟩ ?_ ?_ ?_ <;> simp [go_sem, hp, hr, hr2, hx1]
      · omega


set_option maxHeartbeats 1000000 in
theorem nsome1_spec (s : RdS) (m : Int) (rest : List V) (hr : ∀ hp σ B, σ 1 = some (some 1) → vsLe hp σ B rest rest) (hr2 : ∀ τ : Nat → Nat, τ 1 = 1 → rens τ rest = rest) (T1 e1 : Nat) (xs1 : List V) (hx1 : pures xs1) (he1 : 0 < e1) (hm : 0 ≤ m) (hm2 : m ≤ 100) :
    FnR Tryz.prog 97 [rdP s rest, ⟨.arr, T1, e1, xs1⟩] [.ptr 0 1 0 0, .int .i64 m] [rdP (someR m s).2 rest, ⟨.arr, T1, e1, xs1⟩] (.sl 1 (ints (someR m s).1)) := by
  have q0 := none1_spec s m rest hr hr2 T1 e1 xs1 hx1 he1 hm
  have hb := oneF_in s hm
  have hsr : someR m s = timesR (oneF s m).1.toNat (oneF s m).2 := rfl
  rw [hsr]
  generalize oneF s m = o at *
  obtain ⟨N, s1⟩ := o
  simp only at q0 hb ⊢
  obtain ⟨n, rfl⟩ := Int.eq_ofNat_of_zero_le hb.1
  rw [Int.toNat_natCast]
  have hpb : ∀ l, pures (bts l) := bts_pure
  refine fnR_of mixed Tryz.func97 rfl rfl (by simp [Tryz.ntmps97]) (by simp) fun hwf E => ?_
  clear hwf
  simp (disch := omega) [Tryz.ntmps97, go_sem, rdP, hr, hr2, hx1]
  refine callK_ref q0 [(0, some 0), (1, some 1)] [0, 1] [] [] ?_ ?_ ?_ (.inl ⟨rfl, .inl rfl⟩) (fun _ => ?_)
  · simp [go_sem, rdP, hr, hr2, hx1]
  · simp [go_sem, rdP, hr, hr2, hx1]
  · simp [go_sem, rdP, hr, hr2, hx1]
  simp (disch := omega) [go_sem, rdP, hr, hr2, hx1]
  refine awz_loop mixed (fun k : Nat => ⟨[(8, .int .i64 k), (7, .int .i64 n), (4, .obj 1003 k), (0, .ptr 0 1 0 0)], [(1003, ⟨.arr, 3, 1, ints (timesR k s1).1⟩), (0, rdP (timesR k s1).2 rest), (1, ⟨.arr, T1, e1, xs1⟩)], 1024, [], 17, 2, []⟩) (fun k => k ≤ n) (fun k => n - k) 0 ?_ ?_ ?_
  · omega
  · have h0 : timesR 0 s1 = ([], s1) := rfl
    refine Le.mk [(0, some 0), (1, some 1), (1003, none)] [0, 1] ⟨rfl, rfl, rfl⟩ ?_ ?_ ?_ <;> simp [go_sem, rdP, hr, hr2, hx1, h0, nints_nil]
  · intro k hk
    have hlk : (timesR k s1).1.length = k := repF_len _ _ _
    have q := none1_spec (timesR k s1).2 1048576 rest hr hr2 T1 e1 xs1 hx1 he1 (by omega)
    have hs : timesR (k + 1) s1 = ((timesR k s1).1 ++ [(oneF (timesR k s1).2 1048576).1], (oneF (timesR k s1).2 1048576).2) := repF_snoc _ _ _
    have f4 : ints (timesR (k + 1) s1).1 = ints (timesR k s1).1 ++ [.int .i64 (oneF (timesR k s1).2 1048576).1] := by rw [hs]; simp [ints]
    have f5 : (timesR (k + 1) s1).2 = (oneF (timesR k s1).2 1048576).2 := by rw [hs]
    clear hs
    simp (disch := omega) [go_sem, rdP, hr, hr2, hx1]
    refine br_of (fun h => ?_) (fun h => ?_) <;> simp at h
    · simp (disch := omega) [go_sem, rdP, hr, hr2, hx1]
      refine callK_ref q [(0, some 0), (1, some 1)] [0, 1] [] [] ?_ ?_ ?_ (.inl ⟨rfl, .inl rfl⟩) (fun _ => ?_)
      · simp [go_sem, rdP, hr, hr2, hx1]
      · simp [go_sem, rdP, hr, hr2, hx1]
      · simp [go_sem, rdP, hr, hr2, hx1]
      simp (disch := omega) [go_sem, rdP, hr, hr2, hx1]
      refine ⟨⟨by omega, by omega, by omega⟩, ?_⟩
      refine round_of (k + 1) (by omega) (by omega) (Le.mk [(0, some 0), (1, some 1), (1003, some 1003)] [0, 1, 1003] ⟨rfl, rfl, rfl⟩ ?_ ?_ ?_) <;> simp [go_sem, rdP, hr, hr2, hx1, f4, f5]
    · have hkn : k = n := by omega
      subst hkn
      simp (disch := omega) [go_sem, rdP, hr, hr2, hx1]
      refine Le.mk [(0, some 0), (1, some 1)] [0, 1] ⟨rfl, rfl, rfl⟩ ?_ ?_ ?_ <;> simp [go_sem, rdP, hr, hr2, hx1, hlk]
/-! the fields -/
def flN (a b c : V) (lo hi st : Int) : List V := [a, b, c, .int .i64 lo, .int .i64 hi, .int .i64 st]
theorem flN_pure {a b c : V} (ha : a.pure) (hb : b.pure) (hc : c.pure) (lo hi st : Int) : pures (flN a b c lo hi st) := by simp [flN, go_sem, ha, hb, hc]
theorem rens_sits (τ : Nat → Nat) (l : List Sit) : rens τ (l.map sitV) = l.map sitV := rens_pure _ (sits_pure l)
theorem sitV_len (l : List Sit) : (l.map sitV).length = l.length := List.length_map ..

set_option maxHeartbeats 4000000 in
theorem nsites_spec (s : RdS) : FnR Tryz.prog 41 [rdP s (flN .nilS .nilS .nilS 0 0 0)] [.ptr 0 1 0 0] [rdP (nS s).2 (flN (.sl 12 ((nS s).1.map sitV)) .nilS .nilS 0 0 0)] (.tup []) tabG := by
  have q0 := none0_spec s 12 (flN .nilS .nilS .nilS 0 0 0) (by simp [flN, go_sem]) (by omega)
  have hb := oneF_in s (most := 12) (by omega)
  have hns : nS s = sitesR (oneF s 12).1.toNat (oneF s 12).2 := rfl
  rw [hns]
  generalize oneF s 12 = o at *
  obtain ⟨N, s1⟩ := o
  simp only at q0 hb ⊢
  obtain ⟨n, rfl⟩ := Int.eq_ofNat_of_zero_le hb.1
  rw [Int.toNat_natCast]
  refine fnR_of mixed Tryz.func41 rfl rfl (by simp [Tryz.ntmps41]) (by simp) fun hwf E => ?_
  clear hwf
  simp (disch := omega) [Tryz.ntmps41, go_sem, rdP, flN, rens_sits]
  refine callK_ref q0 [(0, some 0)] [0] [] [] ?_ ?_ ?_ (.inl ⟨rfl, .inl rfl⟩) (fun _ => ?_)
  · simp [go_sem, rdP, flN, rens_sits]
  · simp [go_sem, rdP, flN, rens_sits]
  · simp [go_sem, rdP, flN, rens_sits]
  simp (disch := omega) [go_sem, rdP, flN, rens_sits]
  refine awz_loop mixed (fun p : Nat × List Sit × RdS => ⟨[(7, .int .i64 p.1), (6, .int .i64 n), (0, .ptr 0 1 0 0)], [(1003, ⟨.arr, 87, 12, p.2.1.map sitV⟩), (0, rdP p.2.2 (flN (.obj 1003 p.1) .nilS .nilS 0 0 0))], 1024, [], 69, 1, tabG⟩) (fun p => p.1 ≤ n ∧ p.2.1.length = p.1 ∧ sitesR n s1 = (p.2.1 ++ (sitesR (n - p.1) p.2.2).1, (sitesR (n - p.1) p.2.2).2)) (fun p => n - p.1) (0, [], s1) ⟨by simp only; omega, rfl, rfl⟩ ?_ ?_
  · refine Le.mk [(0, some 0), (1003, none)] [0] ⟨rfl, rfl, rfl⟩ ?_ ?_ ?_ <;> simp [go_sem, rdP, flN, rens_sits]
  · rintro ⟨k, L, st⟩ ⟨hk, hlk, hI⟩
    simp only at hk hlk hI
    have q1 := none1_spec st st.b.length (flN (.obj 1 k) .nilS .nilS 0 0 0) (fun hp σ B h => by simp [flN, go_sem, h]) (fun τ h => by simp [flN, go_sem, h]) 87 12 (L.map sitV) (sits_pure _) (by omega) (by omega)
    have hz : oneF st st.b.length = szR st := rfl
    rw [hz] at q1
    have hzb := oneF_in st (most := (st.b.length : Int)) (by omega)
    rw [hz] at hzb
    simp (disch := omega) [go_sem, rdP, flN, rens_sits]
    refine br_of (fun h => ?_) (fun h => ?_) <;> simp at h
    · obtain ⟨m, hm⟩ : ∃ m, n - k = m + 1 := ⟨n - k - 1, by omega⟩
      have hmk : n - (k + 1) = m := by omega
      rw [hm, sitesR] at hI
      have hzn : szN st = ⟨(szR st).2.b.drop (szR st).1.toNat, (szR st).2.bad || decide (readE ((szR st).2.b.take (szR st).1.toNat) ≠ 0)⟩ := rfl
      rw [hzn] at hI
      clear hzn
      generalize szR st = z at *
      obtain ⟨sz, s2⟩ := z
      simp only at q1 hzb hI
      simp (disch := omega) [go_sem, rdP, flN, rens_sits]
      refine callK_ref q1 [(0, some 0), (1, some 1003)] [0, 1003] [] [] ?_ ?_ ?_ (.inl ⟨rfl, .inl rfl⟩) (fun _ => ?_)
      · simp [go_sem, rdP, flN, rens_sits]
      · simp [go_sem, rdP, flN, rens_sits]
      · simp [go_sem, rdP, flN, rens_sits]
      simp (disch := omega) [go_sem, rdP, flN, rens_sits]
      by_cases hbig : (s2.b.length : Int) < sz
      · rw [if_pos hbig] at hI
        rw [hI]
        simp only [List.append_nil]
        refine br_of (fun h2 => ?_) (fun h2 => ?_) <;> simp at h2
        · simp (disch := omega) [go_sem, rdP, flN, rens_sits]
          refine Le.mk [(0, some 0)] [0] ⟨rfl, rfl, rfl⟩ ?_ ?_ ?_ <;> simp [go_sem, rdP, flN, rens_sits, hlk]
        · omega
      · rw [if_neg hbig] at hI
        obtain ⟨size, rfl⟩ := Int.eq_ofNat_of_zero_le hzb.1
        rw [Int.toNat_natCast] at hI
        have q2 := sread_spec (s2.b.take size)
        have hsv : sitV (readS (s2.b.take size)) = .agg [.int .i64 (readS (s2.b.take size)).id, .sl 3 ((readS (s2.b.take size)).groups.map grpV), .sl 1 (sets (readS (s2.b.take size)).apart), .sl 1 (rows (readS (s2.b.take size)).between), .sl 5 ((readS (s2.b.take size)).phases.map phaV), .sl 4 ((readS (s2.b.take size)).eyes.map eyeV), .int .i64 (readS (s2.b.take size)).watch, .int .i64 (readS (s2.b.take size)).feed, .int .i64 (readS (s2.b.take size)).heal, .int .i64 (readS (s2.b.take size)).low, .int .i64 (readS (s2.b.take size)).high, .sl 3 ((readS (s2.b.take size)).plans.map plnV)] := rfl
        rw [hsv] at q2
        have hmp : (L ++ [readS (s2.b.take size)]).map sitV = L.map sitV ++ [sitV (readS (s2.b.take size))] := by simp
        rw [hsv] at hmp
        clear hsv
        generalize readS (s2.b.take size) = t at *
        generalize readE (s2.b.take size) = te at *
        refine br_of (fun h2 => ?_) (fun h2 => ?_) <;> simp at h2
        · omega
        · simp (disch := omega) [go_sem, rdP, flN, rens_sits, bts_take]
          refine ⟨by omega, ?_⟩
          refine callK_data q2 [] (by simp [go_sem, rdP, flN, rens_sits]) (.inl rfl) (by simp [go_sem, rdP, flN, rens_sits]) (fun _ => ?_) (by simp [tabG, go_sem])
          simp (disch := omega) [go_sem, rdP, flN, rens_sits]
          refine ⟨⟨by omega, by omega, by omega⟩, .inl (by kernel_rfl), ?_⟩
          have htl : ∀ l : List UInt8, List.take l.length l = l := fun l => List.take_length
          simp (disch := omega) [go_sem, rdP, flN, rens_sits, bts_take, bts_drop, htl]
          have hbt : (te != 0) = decide (te ≠ 0) := by rw [Bool.eq_iff_iff]; simp
          refine ⟨by omega, ?_⟩
          refine round_of (k + 1, L ++ [t], ⟨s2.b.drop size, s2.bad || (te != 0)⟩) ⟨by simp only; omega, by simp [hlk], ?_⟩ (by simp only; omega) (Le.mk [(0, some 0), (1003, some 1003)] [0, 1003] ⟨rfl, rfl, rfl⟩ ?_ ?_ ?_)
          · simp only
            rw [hI, hmk, hbt, List.append_assoc]
            rfl
          all_goals simp only [hmp]
          all_goals simp [go_sem, rdP, flN]
          all_goals exact vsLe_append (vsLe_self _ (sits_pure _)) (by simp [go_sem])
    · have hkn : k = n := by omega
      subst hkn
      rw [Nat.sub_self, sitesR, List.append_nil] at hI
      rw [hI]
      simp (disch := omega) [go_sem, rdP, flN, rens_sits]
      refine Le.mk [(0, some 0)] [0] ⟨rfl, rfl, rfl⟩ ?_ ?_ ?_ <;> simp [go_sem, rdP, flN, rens_sits, hlk]

def restN (a b c : V) (lo hi st : Int) (s : RdS) : List (Nat × AM.Obj) := [(0, rdP s (flN a b c lo hi st))]
theorem rens_subs (τ : Nat → Nat) (l : List SubN) : rens τ (l.map subV) = l.map subV := rens_pure _ (subs_pure l)
theorem rens_weds (τ : Nat → Nat) (l : List WedN) : rens τ (l.map wedV) = l.map wedV := rens_pure _ (weds_pure l)
set_option maxHeartbeats 4000000 in
theorem nsubs_spec (s : RdS) (ss : List Sit) : FnR Tryz.prog 42 [rdP s (flN (.sl 12 (ss.map sitV)) .nilS .nilS 0 0 0)] [.ptr 0 1 0 0]
    [rdP (repF subR (oneF s 6).1.toNat (oneF s 6).2).2 (flN (.sl 12 (ss.map sitV)) (.sl 2 ((repF subR (oneF s 6).1.toNat (oneF s 6).2).1.map subV)) .nilS 0 0 0)] (.tup []) := by
  have q0 := none0_spec s 6 (flN (.sl 12 (ss.map sitV)) .nilS .nilS 0 0 0) (by simp [flN, go_sem]) (by omega)
  have hb := oneF_in s (most := 6) (by omega)
  generalize oneF s 6 = o at *
  obtain ⟨N, s1⟩ := o
  simp only at q0 hb ⊢
  obtain ⟨n, rfl⟩ := Int.eq_ofNat_of_zero_le hb.1
  rw [Int.toNat_natCast]
  refine fnR_of mixed Tryz.func42 rfl rfl (by simp [Tryz.ntmps42]) (by simp) fun hwf E => ?_
  clear hwf
  simp (disch := omega) [Tryz.ntmps42, go_sem, rdP, flN, rens_sits, rens_subs]
  refine callK_ref q0 [(0, some 0)] [0] [] [] ?_ ?_ ?_ (.inl ⟨rfl, .inl rfl⟩) (fun _ => ?_)
  · simp [go_sem, rdP, flN, rens_sits, rens_subs]
  · simp [go_sem, rdP, flN, rens_sits, rens_subs]
  · simp [go_sem, rdP, flN, rens_sits, rens_subs]
  simp (disch := omega) [go_sem, rdP, flN, rens_sits, rens_subs]
  refine awz_loop mixed (fun k : Nat => ⟨[(4, .int .i64 k), (3, .int .i64 n), (0, .ptr 0 1 0 0)], [(1003, ⟨.arr, 95, 2, (repF subR k s1).1.map subV⟩), (0, rdP (repF subR k s1).2 (flN (.sl 12 (ss.map sitV)) (.obj 1003 k) .nilS 0 0 0))], 1024, [], 23, 1, []⟩) (fun k => k ≤ n) (fun k => n - k) 0 ?_ ?_ ?_
  · omega
  · refine Le.mk [(0, some 0), (1003, none)] [0] ⟨rfl, rfl, rfl⟩ ?_ ?_ ?_ <;> simp [go_sem, rdP, flN, rens_sits, rens_subs, repF]
  · intro k hk
    have hlk : (repF subR k s1).1.length = k := repF_len _ _ _
    have hs := repF_snoc subR k s1
    have e11 : (repF subR (k + 1) s1).1.map subV = (repF subR k s1).1.map subV ++ [subV (subR (repF subR k s1).2).1] := by rw [hs]; simp
    have e12 : (repF subR (k + 1) s1).2 = (subR (repF subR k s1).2).2 := by rw [hs]
    clear hs
    generalize hst : (repF subR k s1).2 = st at *
    generalize hL : (repF subR k s1).1 = L at *
    have h1 : ∀ hp σ B, σ 1 = some (some 1) → vsLe hp σ B (flN (.sl 12 (ss.map sitV)) (.obj 1 k) .nilS 0 0 0) (flN (.sl 12 (ss.map sitV)) (.obj 1 k) .nilS 0 0 0) := fun hp σ B h => by simp [flN, go_sem, h]
    have h2 : ∀ τ : Nat → Nat, τ 1 = 1 → rens τ (flN (.sl 12 (ss.map sitV)) (.obj 1 k) .nilS 0 0 0) = flN (.sl 12 (ss.map sitV)) (.obj 1 k) .nilS 0 0 0 := fun τ h => by simp [flN, go_sem, h]
    have q1 := nsome1_spec st 12 _ h1 h2 95 2 (L.map subV) (subs_pure _) (by omega) (by omega) (by omega)
    have q2 := none1_spec (someR 12 st).2 12 _ h1 h2 95 2 (L.map subV) (subs_pure _) (by omega) (by omega)
    have r1 : subR st = (⟨(someR 12 st).1, (oneF (someR 12 st).2 12).1⟩, (oneF (someR 12 st).2 12).2) := rfl
    rw [r1] at e11 e12
    simp only [subV] at e11
    clear r1 h1 h2
    generalize someR 12 st = x1 at *
    generalize oneF x1.2 12 = x2 at *
    simp (disch := omega) [go_sem, rdP, flN, rens_sits, rens_subs]
    refine br_of (fun h => ?_) (fun h => ?_) <;> simp at h
    · simp (disch := omega) [go_sem, rdP, flN, rens_sits, rens_subs]
      refine callK_ref q1 [(0, some 0), (1, some 1003)] [0, 1003] [] [] ?_ ?_ ?_ (.inl ⟨rfl, .inl rfl⟩) (fun _ => ?_)
      · simp [go_sem, rdP, flN, rens_sits, rens_subs]
      · simp [go_sem, rdP, flN, rens_sits, rens_subs]
      · simp [go_sem, rdP, flN, rens_sits, rens_subs]
      simp (disch := omega) [go_sem, rdP, flN, rens_sits, rens_subs]
      refine callK_ref q2 [(0, some 0), (1, some 1003)] [0, 1003] [] [] ?_ ?_ ?_ (.inl ⟨rfl, .inl rfl⟩) (fun _ => ?_)
      · simp [go_sem, rdP, flN, rens_sits, rens_subs]
      · simp [go_sem, rdP, flN, rens_sits, rens_subs]
      · simp [go_sem, rdP, flN, rens_sits, rens_subs]
      simp (disch := omega) [go_sem, rdP, flN, rens_sits, rens_subs]
      refine ⟨⟨by omega, by omega, by omega⟩, .inr ⟨[(5, 7), (5, 9)], by kernel_rfl, by simp [lateAll, lateOne, lateIn, go_sem]⟩, ?_⟩
      refine round_of (k + 1) (by omega) (by omega) (Le.mk [(0, some 0), (1003, some 1003)] [0, 1003] ⟨rfl, rfl, rfl⟩ ?_ ?_ ?_) <;> simp [go_sem, rdP, flN, rens_sits, rens_subs, e11, e12, hlk]
    · have hkn : k = n := by omega
      subst hkn
      rw [hst, hL]
      simp (disch := omega) [go_sem, rdP, flN, rens_sits, rens_subs]
      refine Le.mk [(0, some 0)] [0] ⟨rfl, rfl, rfl⟩ ?_ ?_ ?_ <;> simp [go_sem, rdP, flN, rens_sits, rens_subs, hlk]
set_option maxHeartbeats 4000000 in
theorem nweds_spec (s : RdS) (ss : List Sit) (us : List SubN) (lo hi stp : Int) : FnR Tryz.prog 44 [rdP s (flN (.sl 12 (ss.map sitV)) (.sl 2 (us.map subV)) .nilS lo hi stp)] [.ptr 0 1 0 0]
    [rdP (repF wedR (oneF s 8).1.toNat (oneF s 8).2).2 (flN (.sl 12 (ss.map sitV)) (.sl 2 (us.map subV)) (.sl 4 ((repF wedR (oneF s 8).1.toNat (oneF s 8).2).1.map wedV)) lo hi stp)] (.tup []) := by
  have q0 := none0_spec s 8 (flN (.sl 12 (ss.map sitV)) (.sl 2 (us.map subV)) .nilS lo hi stp) (by simp [flN, go_sem]) (by omega)
  have hb := oneF_in s (most := 8) (by omega)
  generalize oneF s 8 = o at *
  obtain ⟨N, s1⟩ := o
  simp only at q0 hb ⊢
  obtain ⟨n, rfl⟩ := Int.eq_ofNat_of_zero_le hb.1
  rw [Int.toNat_natCast]
  refine fnR_of mixed Tryz.func44 rfl rfl (by simp [Tryz.ntmps44]) (by simp) fun hwf E => ?_
  clear hwf
  simp (disch := omega) [Tryz.ntmps44, go_sem, rdP, flN, rens_sits, rens_subs, rens_weds]
  refine callK_ref q0 [(0, some 0)] [0] [] [] ?_ ?_ ?_ (.inl ⟨rfl, .inl rfl⟩) (fun _ => ?_)
  · simp [go_sem, rdP, flN, rens_sits, rens_subs, rens_weds]
  · simp [go_sem, rdP, flN, rens_sits, rens_subs, rens_weds]
  · simp [go_sem, rdP, flN, rens_sits, rens_subs, rens_weds]
  simp (disch := omega) [go_sem, rdP, flN, rens_sits, rens_subs, rens_weds]
  refine awz_loop mixed (fun k : Nat => ⟨[(4, .int .i64 k), (3, .int .i64 n), (0, .ptr 0 1 0 0)], [(1003, ⟨.arr, 97, 4, (repF wedR k s1).1.map wedV⟩), (0, rdP (repF wedR k s1).2 (flN (.sl 12 (ss.map sitV)) (.sl 2 (us.map subV)) (.obj 1003 k) lo hi stp))], 1024, [], 27, 1, []⟩) (fun k => k ≤ n) (fun k => n - k) 0 ?_ ?_ ?_
  · omega
  · refine Le.mk [(0, some 0), (1003, none)] [0] ⟨rfl, rfl, rfl⟩ ?_ ?_ ?_ <;> simp [go_sem, rdP, flN, rens_sits, rens_subs, rens_weds, repF]
  · intro k hk
    have hlk : (repF wedR k s1).1.length = k := repF_len _ _ _
    have hs := repF_snoc wedR k s1
    have e11 : (repF wedR (k + 1) s1).1.map wedV = (repF wedR k s1).1.map wedV ++ [wedV (wedR (repF wedR k s1).2).1] := by rw [hs]; simp
    have e12 : (repF wedR (k + 1) s1).2 = (wedR (repF wedR k s1).2).2 := by rw [hs]
    clear hs
    generalize hst : (repF wedR k s1).2 = st at *
    generalize hL : (repF wedR k s1).1 = L at *
    have h1 : ∀ hp σ B, σ 1 = some (some 1) → vsLe hp σ B (flN (.sl 12 (ss.map sitV)) (.sl 2 (us.map subV)) (.obj 1 k) lo hi stp) (flN (.sl 12 (ss.map sitV)) (.sl 2 (us.map subV)) (.obj 1 k) lo hi stp) := fun hp σ B h => by simp [flN, go_sem, h]
    have h2 : ∀ τ : Nat → Nat, τ 1 = 1 → rens τ (flN (.sl 12 (ss.map sitV)) (.sl 2 (us.map subV)) (.obj 1 k) lo hi stp) = flN (.sl 12 (ss.map sitV)) (.sl 2 (us.map subV)) (.obj 1 k) lo hi stp := fun τ h => by simp [flN, go_sem, h]
    have q1 := none1_spec st 6 _ h1 h2 97 4 (L.map wedV) (weds_pure _) (by omega) (by omega)
    have q2 := none1_spec (wdA st).2 6 _ h1 h2 97 4 (L.map wedV) (weds_pure _) (by omega) (by omega)
    have q3 := none1_spec (wdB st).2 1048576 _ h1 h2 97 4 (L.map wedV) (weds_pure _) (by omega) (by omega)
    have q4 := nsome1_spec (wdV st).2 8 _ h1 h2 97 4 (L.map wedV) (weds_pure _) (by omega) (by omega) (by omega)
    have c1 : oneF st 6 = wdA st := rfl
    have c2 : oneF (wdA st).2 6 = wdB st := rfl
    have c3 : oneF (wdB st).2 1048576 = wdV st := rfl
    rw [c1] at q1; rw [c2] at q2; rw [c3] at q3
    have r1 : wedR st = (⟨(wdA st).1, (wdB st).1, (wdV st).1, (someR 8 (wdV st).2).1⟩, (someR 8 (wdV st).2).2) := rfl
    rw [r1] at e11 e12
    simp only [wedV] at e11
    clear r1 h1 h2 c1 c2 c3
    generalize someR 8 (wdV st).2 = x4 at *
    generalize wdV st = x3 at *
    generalize wdB st = x2 at *
    generalize wdA st = x1 at *
    simp (disch := omega) [go_sem, rdP, flN, rens_sits, rens_subs, rens_weds]
    refine br_of (fun h => ?_) (fun h => ?_) <;> simp at h
    · simp (disch := omega) [go_sem, rdP, flN, rens_sits, rens_subs, rens_weds]
      refine callK_ref q1 [(0, some 0), (1, some 1003)] [0, 1003] [] [] ?_ ?_ ?_ (.inl ⟨rfl, .inl rfl⟩) (fun _ => ?_)
      · simp [go_sem, rdP, flN, rens_sits, rens_subs, rens_weds]
      · simp [go_sem, rdP, flN, rens_sits, rens_subs, rens_weds]
      · simp [go_sem, rdP, flN, rens_sits, rens_subs, rens_weds]
      simp (disch := omega) [go_sem, rdP, flN, rens_sits, rens_subs, rens_weds]
      refine callK_ref q2 [(0, some 0), (1, some 1003)] [0, 1003] [] [] ?_ ?_ ?_ (.inl ⟨rfl, .inl rfl⟩) (fun _ => ?_)
      · simp [go_sem, rdP, flN, rens_sits, rens_subs, rens_weds]
      · simp [go_sem, rdP, flN, rens_sits, rens_subs, rens_weds]
      · simp [go_sem, rdP, flN, rens_sits, rens_subs, rens_weds]
      simp (disch := omega) [go_sem, rdP, flN, rens_sits, rens_subs, rens_weds]
      refine callK_ref q3 [(0, some 0), (1, some 1003)] [0, 1003] [] [] ?_ ?_ ?_ (.inl ⟨rfl, .inl rfl⟩) (fun _ => ?_)
      · simp [go_sem, rdP, flN, rens_sits, rens_subs, rens_weds]
      · simp [go_sem, rdP, flN, rens_sits, rens_subs, rens_weds]
      · simp [go_sem, rdP, flN, rens_sits, rens_subs, rens_weds]
      simp (disch := omega) [go_sem, rdP, flN, rens_sits, rens_subs, rens_weds]
      refine callK_ref q4 [(0, some 0), (1, some 1003)] [0, 1003] [] [] ?_ ?_ ?_ (.inl ⟨rfl, .inl rfl⟩) (fun _ => ?_)
      · simp [go_sem, rdP, flN, rens_sits, rens_subs, rens_weds]
      · simp [go_sem, rdP, flN, rens_sits, rens_subs, rens_weds]
      · simp [go_sem, rdP, flN, rens_sits, rens_subs, rens_weds]
      simp (disch := omega) [go_sem, rdP, flN, rens_sits, rens_subs, rens_weds]
      refine ⟨⟨by omega, by omega, by omega⟩, .inr ⟨[(5, 7), (5, 9), (5, 11), (5, 13)], by kernel_rfl, by simp [lateAll, lateOne, lateIn, go_sem]⟩, ?_⟩
      refine round_of (k + 1) (by omega) (by omega) (Le.mk [(0, some 0), (1003, some 1003)] [0, 1003] ⟨rfl, rfl, rfl⟩ ?_ ?_ ?_) <;> simp [go_sem, rdP, flN, rens_sits, rens_subs, rens_weds, e11, e12, hlk]
    · have hkn : k = n := by omega
      subst hkn
      rw [hst, hL]
      simp (disch := omega) [go_sem, rdP, flN, rens_sits, rens_subs, rens_weds]
      refine Le.mk [(0, some 0)] [0] ⟨rfl, rfl, rfl⟩ ?_ ?_ ?_ <;> simp [go_sem, rdP, flN, rens_sits, rens_subs, rens_weds, hlk]
set_option maxHeartbeats 4000000 in
theorem ncyc_spec (s : RdS) (a b : V) (ha : a.pure) (hb : b.pure) : FnR Tryz.prog 43 [rdP s (flN a b .nilS 0 0 0)] [.ptr 0 1 0 0]
    [rdP (oneF (oneF (oneF s 1048576).2 1048576).2 1048576).2 (flN a b .nilS (oneF s 1048576).1 (oneF (oneF s 1048576).2 1048576).1 (oneF (oneF (oneF s 1048576).2 1048576).2 1048576).1)] (.tup []) := by
  have q1 := none0_spec s 1048576 (flN a b .nilS 0 0 0) (by simp [flN, go_sem, ha, hb]) (by omega)
  have q2 := none0_spec (oneF s 1048576).2 1048576 (flN a b .nilS 0 0 0) (by simp [flN, go_sem, ha, hb]) (by omega)
  have q3 := none0_spec (oneF (oneF s 1048576).2 1048576).2 1048576 (flN a b .nilS 0 0 0) (by simp [flN, go_sem, ha, hb]) (by omega)
  generalize oneF (oneF (oneF s 1048576).2 1048576).2 1048576 = x3 at *
  generalize oneF (oneF s 1048576).2 1048576 = x2 at *
  generalize oneF s 1048576 = x1 at *
  have hva := fun hp σ B => vLe_self (hp := hp) (σ := σ) (B := B) a ha
  have hvb := fun hp σ B => vLe_self (hp := hp) (σ := σ) (B := B) b hb
  have hra := fun τ => ren_pure (τ := τ) a ha
  have hrb := fun τ => ren_pure (τ := τ) b hb
  refine fnR_of mixed Tryz.func43 rfl rfl (by simp [Tryz.ntmps43]) (by simp) fun hwf E => ?_
  clear hwf
  simp (disch := omega) [Tryz.ntmps43, go_sem, rdP, flN, ha, hb, hva, hvb, hra, hrb]
  refine callK_ref q1 [(0, some 0)] [0] [] [] ?_ ?_ ?_ (.inl ⟨rfl, .inl rfl⟩) (fun _ => ?_)
  · simp [go_sem, rdP, flN, ha, hb, hva, hvb, hra, hrb]
  · simp [go_sem, rdP, flN, ha, hb, hva, hvb, hra, hrb]
  · simp [go_sem, rdP, flN, ha, hb, hva, hvb, hra, hrb]
  simp (disch := omega) [go_sem, rdP, flN, ha, hb, hva, hvb, hra, hrb]
  refine callK_ref q2 [(0, some 0)] [0] [] [] ?_ ?_ ?_ (.inl ⟨rfl, .inl rfl⟩) (fun _ => ?_)
  · simp [go_sem, rdP, flN, ha, hb, hva, hvb, hra, hrb]
  · simp [go_sem, rdP, flN, ha, hb, hva, hvb, hra, hrb]
  · simp [go_sem, rdP, flN, ha, hb, hva, hvb, hra, hrb]
  simp (disch := omega) [go_sem, rdP, flN, ha, hb, hva, hvb, hra, hrb]
  refine callK_ref q3 [(0, some 0)] [0] [] [] ?_ ?_ ?_ (.inl ⟨rfl, .inl rfl⟩) (fun _ => ?_)
  · simp [go_sem, rdP, flN, ha, hb, hva, hvb, hra, hrb]
  · simp [go_sem, rdP, flN, ha, hb, hva, hvb, hra, hrb]
  · simp [go_sem, rdP, flN, ha, hb, hva, hvb, hra, hrb]
  simp (disch := omega) [go_sem, rdP, flN, ha, hb, hva, hvb, hra, hrb]
  refine Le.mk [(0, some 0)] [0] ⟨rfl, rfl, rfl⟩ ?_ ?_ ?_ <;> simp [go_sem, rdP, flN, ha, hb, hva, hvb, hra, hrb]
end Go.Proofs.YtdeionjkcmpnpaaGreatDoor
