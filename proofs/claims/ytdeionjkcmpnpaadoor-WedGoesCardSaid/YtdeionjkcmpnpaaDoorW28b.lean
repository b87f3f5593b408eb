
/- The reference stoplineref28: groups, the cycles by which subs go. -/
import Derived.Test.YtdeionjkcmpnpaaDoorW28
set_option linter.unusedSimpArgs false
set_option linter.unusedVariables false
namespace Go.Proofs.YtdeionjkcmpnpaaDoor
open Go.AM Go.RowKit
set_option maxRecDepth 100000

theorem ints_nil28 : ints [] = [] := rfl
theorem ints_snoc {l : List Int} {k : Nat} (h : k < l.length) : ints (l.take (k + 1)) = ints (l.take k) ++ [.int .i64 (l.getD k 0)] := by
  have e := List.take_succ_eq_append_getElem h
  rw [e, show l[k] = l.getD k 0 by simp [h]]
  simp [ints, -List.map_take]
set_option maxHeartbeats 2000000 in
theorem parted_spec (n : NetN) (l : List (Bool × Int)) (hn : NetOk n) (hl : l.length = n.weds.length) : FnD Tryd.prog 82 [netV n, .sl 2 (bondsV l)] (.sl 1 (ints (groupsN n l))) := by
  have hnv : netV n = .agg [.sl 12 (n.sites.map sitV), .sl 2 (n.subs.map subV), .sl 4 (n.weds.map wedV), .int .i64 n.low, .int .i64 n.high, .int .i64 n.step] := rfl
  obtain ⟨b1, b2⟩ := net_small hn
  have q := fun i hi => reach_spec n l i hn hl hi
  have hf := fun i hi => reach_first (l := l) (i := i) hn hi
  have hrl := fun i => rcK_len n l i n.subs.length
  have hre : ∀ i, rcK n l i n.subs.length = reachN n l i := fun _ => rfl
  simp only [hre] at hrl
  have hgl := (groups_ok (l := l) hn).len
  generalize groupsN n l = g at *
  rw [hnv] at q ⊢
  refine fnD_of mixed Tryd.func82 rfl rfl (by simp [Tryd.ntmps82]) fun hwf E => ?_
  clear hwf
  simp (disch := omega) [Tryd.ntmps82, go_sem]
  refine awz_loop mixed (fun k : Nat => ⟨[(6, .int .i64 k), (5, .obj 1001 k), (2, .ptr 0 1 0 0), (1, .sl 2 (bondsV l))], [(1001, ⟨.arr, 3, 1, ints (g.take k)⟩), (0, ⟨.box, 77, 6, [netV n]⟩)], 1024, [], 32, 0, []⟩) (fun k => k ≤ n.subs.length) (fun k => n.subs.length - k) 0 ?_ ?_ ?_
  · omega
  · refine Le.mk [(0, some 0), (1001, none)] [0] ⟨rfl, rfl, rfl⟩ ?_ ?_ ?_ <;> simp [go_sem, netV, ints_nil28]
  · intro k hk
    have htk : (g.take k).length = k := by rw [List.length_take]; omega
    simp (disch := omega) [go_sem, netV]
    refine br_of (fun h => ?_) (fun h => ?_) <;> simp at h
    · have q := q k h
      obtain ⟨f1, f2, f3, f4⟩ := hf k h
      have hrl := hrl k
      have hsn := ints_snoc (l := g) (k := k) (by omega)
      generalize g.getD k 0 = G at *
      generalize reachN n l k = R at *
      obtain ⟨G, rfl⟩ := Int.eq_ofNat_of_zero_le f1
      simp only [Int.toNat_natCast] at f3
      simp (disch := omega) [go_sem]
      refine callK_data q [] (by simp [go_sem]) (.inl rfl) (by simp [go_sem]) (fun _ => ?_)
      simp (disch := omega) [go_sem]
      refine awz_loop mixed (fun j : Nat => ⟨[(8, .int .i64 j), (7, .sl 1 (bls R)), (6, .int .i64 k), (5, .obj 1001 k), (2, .ptr 0 1 0 0), (1, .sl 2 (bondsV l))], [(1001, ⟨.arr, 3, 1, ints (g.take k)⟩), (0, ⟨.box, 77, 6, [netV n]⟩)], 2048, [], 32, 0, []⟩) (fun j => j ≤ G) (fun j => G - j) 0 ?_ ?_ ?_
      · omega
      · refine Le.mk [(0, some 0), (1001, some 1001)] [0, 1001] ⟨rfl, rfl, rfl⟩ ?_ ?_ ?_ <;> simp [go_sem, netV]
      · intro j hj
        have nj := nth_bls (l := R) (k := j) (by omega)
        by_cases hjG : j = G
        · subst hjG
          rw [f3] at nj
          have hjr : j < R.length := by omega
          simp (disch := omega) [go_sem, nj, hjr]
          refine ⟨⟨by omega, by omega⟩, ?_⟩
          refine round_of (k + 1) (by omega) (by omega) (Le.mk [(0, some 0), (1001, some 1001)] [0, 1001] ⟨rfl, rfl, rfl⟩ ?_ ?_ ?_) <;> simp [go_sem, netV, hsn]
        · rw [f4 j (by omega)] at nj
          have hjr : j < R.length := by omega
          simp (disch := omega) [go_sem, nj, hjr]
          refine round_of (j + 1) (by omega) (by omega) (Le.mk [(0, some 0), (1001, some 1001)] [0, 1001] ⟨rfl, rfl, rfl⟩ ?_ ?_ ?_) <;> simp [go_sem, netV]
    · have hks : k = n.subs.length := by omega
      subst hks
      have hta : g.take n.subs.length = g := by rw [← hgl]; exact List.take_length
      rw [hta] at htk ⊢
      simp (disch := omega) [go_sem, htk]
      exact argsLe_self (ints_pure _)

set_option maxHeartbeats 2000000 in
theorem rcommon_spec (n : NetN) (l : List (Bool × Int)) (cs : List Int) (hn : NetOk n) (hl : l.length = n.weds.length) (hc : cs.length = n.subs.length) (h1 : ∀ c ∈ cs, 1 ≤ c) :
    FnD Tryd.prog 86 [netV n, .sl 2 (bondsV l), .sl 1 (ints cs)] (.sl 1 (ints (commonG (groupsN n l) cs))) := by
  have hnv : netV n = .agg [.sl 12 (n.sites.map sitV), .sl 2 (n.subs.map subV), .sl 4 (n.weds.map wedV), .int .i64 n.low, .int .i64 n.high, .int .i64 n.step] := rfl
  obtain ⟨b1, b2⟩ := net_small hn
  have q := fun i hi => reach_spec n l i hn hl hi
  have hf : ∀ i, i < n.subs.length → (commonG (groupsN n l) cs).getD i 0 = cm2K (reachN n l i) cs n.subs.length := fun i hi => by
    rw [cm2K_com hn hi hc h1]
    simp [commonG, comL, hc, hi]
  have hrl := fun i => rcK_len n l i n.subs.length
  have hre : ∀ i, rcK n l i n.subs.length = reachN n l i := fun _ => rfl
  simp only [hre] at hrl
  have hgl := commonG_len (groupsN n l) cs
  generalize commonG (groupsN n l) cs = g at *
  rw [hnv] at q ⊢
  refine fnD_of mixed Tryd.func86 rfl rfl (by simp [Tryd.ntmps86]) fun hwf E => ?_
  clear hwf
  simp (disch := omega) [Tryd.ntmps86, go_sem]
  refine awz_loop mixed (fun k : Nat => ⟨[(8, .int .i64 k), (7, .obj 1001 k), (3, .ptr 0 1 0 0), (2, .sl 1 (ints cs)), (1, .sl 2 (bondsV l))], [(1001, ⟨.arr, 3, 1, ints (g.take k)⟩), (0, ⟨.box, 77, 6, [netV n]⟩)], 1024, [], 50, 0, []⟩) (fun k => k ≤ n.subs.length) (fun k => n.subs.length - k) 0 ?_ ?_ ?_
  · omega
  · refine Le.mk [(0, some 0), (1001, none)] [0] ⟨rfl, rfl, rfl⟩ ?_ ?_ ?_ <;> simp [go_sem, netV, ints_nil28]
  · intro k hk
    have htk : (g.take k).length = k := by rw [List.length_take]; omega
    simp (disch := omega) [go_sem, netV]
    refine br_of (fun h => ?_) (fun h => ?_) <;> simp at h
    · have q := q k h
      have hf := hf k h
      have hrl := hrl k
      have hsn := ints_snoc (l := g) (k := k) (by omega)
      rw [hf] at hsn
      generalize reachN n l k = R at *
      simp (disch := omega) [go_sem]
      refine callK_data q [] (by simp [go_sem]) (.inl rfl) (by simp [go_sem]) (fun _ => ?_)
      simp (disch := omega) [go_sem]
      refine awz_loop mixed (fun j : Nat => ⟨[(11, .int .i64 j), (10, .int .i64 (cm2K R cs j)), (9, .sl 1 (bls R)), (8, .int .i64 k), (7, .obj 1001 k), (3, .ptr 0 1 0 0), (2, .sl 1 (ints cs)), (1, .sl 2 (bondsV l))], [(1001, ⟨.arr, 3, 1, ints (g.take k)⟩), (0, ⟨.box, 77, 6, [netV n]⟩)], 2048, [], 50, 0, []⟩) (fun j => j ≤ n.subs.length) (fun j => n.subs.length - j) 0 ?_ ?_ ?_
      · omega
      · have h0 : cm2K R cs 0 = 0 := rfl
        refine Le.mk [(0, some 0), (1001, some 1001)] [0, 1001] ⟨rfl, rfl, rfl⟩ ?_ ?_ ?_ <;> simp [go_sem, netV, h0]
      · intro j hj
        simp (disch := omega) [go_sem, hrl]
        refine br_of (fun hj2 => ?_) (fun hj2 => ?_) <;> simp at hj2
        · have hjr : j < R.length := by omega
          have hjc : j < cs.length := by omega
          have nj := nth_bls hjr
          have nc : nth (ints cs) j = .int .i64 (cs.getD j 0) := by rw [nth_ints hjc]; simp [hjc]
          have hsu := cm2K_succ R cs j
          generalize cm2K R cs j = m at *
          generalize cs.getD j 0 = c at *
          cases hR : R.getD j false with
          | true =>
            rw [hR] at nj hsu
            simp (disch := omega) [go_sem, hj2, nj, nc, hjr, hjc]
            refine br_of (fun hcm => ?_) (fun hcm => ?_) <;> simp at hcm
            · rw [if_pos ⟨rfl, hcm⟩] at hsu
              simp (disch := omega) [go_sem, nc, hjc]
              refine round_of (j + 1) (by omega) (by omega) (Le.mk [(0, some 0), (1001, some 1001)] [0, 1001] ⟨rfl, rfl, rfl⟩ ?_ ?_ ?_) <;> simp [go_sem, netV, hsu]
            · rw [if_neg (fun e => by have := e.2; omega)] at hsu
              simp (disch := omega) [go_sem]
              refine round_of (j + 1) (by omega) (by omega) (Le.mk [(0, some 0), (1001, some 1001)] [0, 1001] ⟨rfl, rfl, rfl⟩ ?_ ?_ ?_) <;> simp [go_sem, netV, hsu]
          | false =>
            rw [hR] at nj hsu
            rw [if_neg (by simp)] at hsu
            simp (disch := omega) [go_sem, hj2, nj, nc, hjr, hjc]
            refine round_of (j + 1) (by omega) (by omega) (Le.mk [(0, some 0), (1001, some 1001)] [0, 1001] ⟨rfl, rfl, rfl⟩ ?_ ?_ ?_) <;> simp [go_sem, netV, hsu]
        · have hjn : j = n.subs.length := by omega
          subst hjn
          simp (disch := omega) [go_sem]
          refine ⟨⟨by omega, by omega⟩, ?_⟩
          refine round_of (k + 1) (by omega) (by omega) (Le.mk [(0, some 0), (1001, some 1001)] [0, 1001] ⟨rfl, rfl, rfl⟩ ?_ ?_ ?_) <;> simp [go_sem, netV, hsn]
    · have hks : k = n.subs.length := by omega
      subst hks
      have hta : g.take n.subs.length = g := by rw [← hc, ← hgl]; exact List.take_length
      rw [hta] at htk ⊢
      simp (disch := omega) [go_sem, htk]
      exact argsLe_self (ints_pure _)
end Go.Proofs.YtdeionjkcmpnpaaDoor
