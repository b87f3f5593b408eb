
/- The reference stoplineref28: what weds reach, groups, the cycles by which subs go. -/
import Derived.Test.YtdeionjkcmpnpaaDoorGoesL
import Derived.Test.YtdeionjkcmpnpaaDoorPur
set_option linter.unusedSimpArgs false
set_option linter.unusedVariables false
namespace Go.Proofs.YtdeionjkcmpnpaaDoor
open Go.AM Go.RowKit
set_option maxRecDepth 100000

def bls (l : List Bool) : List V := l.map fun b => .bool b
theorem bls_len (l : List Bool) : (bls l).length = l.length := by simp [bls]
theorem nth_bls {l : List Bool} {k : Nat} (h : k < l.length) : nth (bls l) k = .bool (l.getD k false) := by rw [bls, nth_map h]; simp [h]
theorem bls_pure (l : List Bool) : pures (bls l) := pures_map _ (fun u => by simp [go_sem]) l
theorem bls_set (l : List Bool) (k : Nat) (b : Bool) : (bls l).set k (.bool b) = bls (l.set k b) := by simp [bls, List.map_set]
attribute [go_sem] bls_len bls_pure bonds_len bonds_pure
theorem wed_ab {n : NetN} (hn : NetOk n) {j : Nat} (hj : j < n.weds.length) : ∃ A B : Nat, n.weds[j].a = A ∧ n.weds[j].b = B ∧ aAt n j = A ∧ bAt n j = B ∧ A < n.subs.length ∧ B < n.subs.length := by
  obtain ⟨h1, h2, h3, _⟩ := hn.2.2.2.2.2 _ (List.getElem_mem hj)
  have hw := wed_lt hn hj
  obtain ⟨A, hA⟩ := Int.eq_ofNat_of_zero_le h1
  obtain ⟨B, hB⟩ := Int.eq_ofNat_of_zero_le (show 0 ≤ n.weds[j].b by omega)
  have eA : aAt n j = A := by simp [aAt, hj, hA]
  have eB : bAt n j = B := by simp [bAt, hj, hB]
  exact ⟨A, B, hA, hB, eA, eB, by omega, by omega⟩
theorem net_small {n : NetN} (hn : NetOk n) : n.subs.length ≤ 6 ∧ n.weds.length ≤ 8 := ⟨hn.2.2.1.1.2, hn.2.2.2.1⟩

theorem nth_rep {x : V} : ∀ {n i : Nat}, i < n → nth (List.replicate n x) i = x
  | 0, i, h => by omega
  | n + 1, 0, h => rfl
  | n + 1, i + 1, h => by rw [List.replicate_succ]; simp only [nth]; exact nth_rep (by omega)
set_option maxHeartbeats 2000000 in
theorem reach_spec (n : NetN) (l : List (Bool × Int)) (i : Nat) (hn : NetOk n) (hl : l.length = n.weds.length) (hi : i < n.subs.length) :
    FnD Tryd.prog 135 [netV n, .sl 2 (bondsV l), .int .i64 i] (.sl 1 (bls (reachN n l i))) := by
  have hnv : netV n = .agg [.sl 12 (n.sites.map sitV), .sl 2 (n.subs.map subV), .sl 4 (n.weds.map wedV), .int .i64 n.low, .int .i64 n.high, .int .i64 n.step] := rfl
  obtain ⟨b1, b2⟩ := net_small hn
  rw [hnv]
  have hrl := rcK_len n l i
  refine fnD_of mixed Tryd.func135 rfl rfl (by simp [Tryd.ntmps135]) fun hwf E => ?_
  clear hwf
  simp (disch := omega) [Tryd.ntmps135, go_sem]
  have hr0 := nth_rep (x := .bool false) hi
  simp (disch := omega) [go_sem, hi, hr0]
  refine ⟨by omega, ?_⟩
  refine awz_loop mixed (fun k : Nat => ⟨[(8, .int .i64 k), (7, .obj 80 n.subs.length), (3, .ptr 0 1 0 0), (1, .sl 2 (bondsV l))], [(80, ⟨.arr, 4, 1, bls (rcK n l i k)⟩), (0, ⟨.box, 77, 6, [netV n]⟩)], 1024, [], 69, 0, []⟩) (fun k => k ≤ n.subs.length) (fun k => n.subs.length - k) 0 ?_ ?_ ?_
  · omega
  · have h0 : (List.replicate n.subs.length (.bool false)).set i (.bool true) = bls (rcK n l i 0) := by simp [rcK, rc0, bls, List.map_set]
    refine Le.mk [(0, some 0), (80, some 80)] [0, 80] ⟨rfl, rfl, rfl⟩ ?_ ?_ ?_ <;> simp [go_sem, h0, netV]
  · intro k hk
    simp (disch := omega) [go_sem, netV]
    refine br_of (fun h => ?_) (fun h => ?_) <;> simp at h
    · have hr0 := rcPass_len n l (rcK n l i k)
      rw [hrl k] at hr0
      simp (disch := omega) [go_sem]
      refine awz_loop mixed (fun j : Nat => ⟨[(9, .int .i64 j), (8, .int .i64 k), (7, .obj 80 n.subs.length), (3, .ptr 0 1 0 0), (1, .sl 2 (bondsV l))], [(80, ⟨.arr, 4, 1, bls (rcPass n l (rcK n l i k) j)⟩), (0, ⟨.box, 77, 6, [netV n]⟩)], 2048, [], 69, 0, []⟩) (fun j => j ≤ n.weds.length) (fun j => n.weds.length - j) 0 ?_ ?_ ?_
      · omega
      · have h0 : rcPass n l (rcK n l i k) 0 = rcK n l i k := rfl
        refine Le.mk [(0, some 0), (80, some 80)] [0, 80] ⟨rfl, rfl, rfl⟩ ?_ ?_ ?_ <;> simp [go_sem, h0, netV]
      · intro j hj
        have hrj := hr0 j
        simp (disch := omega) [go_sem, netV, hrj]
        refine br_of (fun h2 => ?_) (fun h2 => ?_) <;> simp at h2
        · have hs := rcPass_succ n l (rcK n l i k) j
          obtain ⟨A, B, eA, eB, e1, e2, hA, hB⟩ := wed_ab hn h2
          have hw : nth (n.weds.map wedV) j = wedV n.weds[j] := nth_map h2
          have hjl : j < l.length := by omega
          have hb := nth_bonds hjl
          have ht : tog l j = l[j].1 := by simp [tog, hjl]
          generalize rcPass n l (rcK n l i k) j = is at *
          have nA := nth_bls (l := is) (k := A) (by omega)
          have nB := nth_bls (l := is) (k := B) (by omega)
          unfold rcStep at hs
          rw [ht, e1, e2] at hs
          have hs1 := bls_set is A true
          have hs2 := bls_set (is.set A true) B true
          have nB2 : ∃ b, nth (bls (is.set A true)) B = .bool b := ⟨_, nth_bls (by simp; omega)⟩
          obtain ⟨bB2, nB2⟩ := nB2
          generalize is.getD A false = bA at *
          generalize is.getD B false = bB at *
          generalize l[j] = lj at *
          obtain ⟨t, m⟩ := lj
          simp only at hs
          have hA' : A < is.length := by omega
          have hB' : B < is.length := by omega
          have key : (t && (bA || bB)) = true → rcPass n l (rcK n l i k) (j + 1) = (is.set A true).set B true := fun e => by rw [hs, if_pos (by simpa using e)]
          have key2 : (t && (bA || bB)) = false → rcPass n l (rcK n l i k) (j + 1) = is := fun e => by
            rw [hs, if_neg]
            rw [Bool.and_eq_false_iff, Bool.or_eq_false_iff] at e
            rintro ⟨e1, e2⟩
            rcases e with e | e
            · rw [e] at e1; cases e1
            · rw [e.1, e.2] at e2; simp at e2
          clear hs
          cases ht2 : t && (bA || bB) with
          | true =>
            have kk := key ht2
            clear key key2
            cases t <;> cases bA <;> cases bB <;> simp at ht2
            all_goals
              simp (disch := omega) [go_sem, hrj, hA', hB', nA, nB, hA, hB, h2, hw, hb, wedV, bondV, eA, eB, hjl, hs1, hs2, nB2]
              refine round_of (j + 1) (by omega) (by omega) (Le.mk [(0, some 0), (80, some 80)] [0, 80] ⟨rfl, rfl, rfl⟩ ?_ ?_ ?_) <;> simp [go_sem, hrj, hA', hB', nA, nB, hA, hB, netV, kk, hs1, hs2]
          | false =>
            have kk := key2 ht2
            clear key key2
            cases t <;> cases bA <;> cases bB <;> simp at ht2
            all_goals
              simp (disch := omega) [go_sem, hrj, hA', hB', nA, nB, hA, hB, h2, hw, hb, wedV, bondV, eA, eB, hjl]
              refine round_of (j + 1) (by omega) (by omega) (Le.mk [(0, some 0), (80, some 80)] [0, 80] ⟨rfl, rfl, rfl⟩ ?_ ?_ ?_) <;> simp [go_sem, hrj, hA', hB', nA, nB, hA, hB, netV, kk]
        · have hjw : j = n.weds.length := by omega
          subst hjw
          have hss : rcK n l i (k + 1) = rcPass n l (rcK n l i k) n.weds.length := rfl
          simp (disch := omega) [go_sem]
          refine round_of (k + 1) (by omega) (by omega) (Le.mk [(0, some 0), (80, some 80)] [0, 80] ⟨rfl, rfl, rfl⟩ ?_ ?_ ?_) <;> simp [go_sem, netV, hss]
    · have hks : k = n.subs.length := by omega
      subst hks
      have hz : rcK n l i n.subs.length = reachN n l i := rfl
      have hzl := rcK_len n l i n.subs.length
      rw [hz] at hzl ⊢
      simp (disch := omega) [go_sem, hzl]
      exact argsLe_self (bls_pure _)
end Go.Proofs.YtdeionjkcmpnpaaDoor
