/- The layers load and offset: the highest load, a wed's vote. -/
import Derived.Test.YthjojamcolmbdaaDoorMost
import Derived.Test.YthjojamcolmbdaaDoorCyc
set_option linter.unusedSimpArgs false
set_option linter.unusedVariables false
namespace Go.Proofs.YthjojamcolmbdaaDoor
open Go.AM Go.RowKit
set_option maxRecDepth 100000

theorem lfixed_spec (x : Int) : FnD Tryd.prog 156 [.int .i64 x] (.bool (fixI x)) := by
  refine fnD_of mixed Tryd.func156 rfl rfl (by simp [Tryd.ntmps156]) fun hwf E => ?_
  simp (disch := omega) [Tryd.ntmps156, go_sem, fixI]
theorem high1_spec (a b : Int) : FnD Tryd.prog 158 [.int .i64 a, .int .i64 b] (.bool (decide (b < a))) := by
  refine fnD_of mixed Tryd.func158 rfl rfl (by simp [Tryd.ntmps158]) fun hwf E => ?_
  simp (disch := omega) [Tryd.ntmps158, go_sem]
/-- The first greatest one. -/
def hiK (l : List Int) : Nat → Int
  | 0 => -1
  | k + 1 => if hiK l k < 0 ∨ l.getD (hiK l k).toNat 0 < l.getD k 0 then k else hiK l k
theorem hiK_bound (l : List Int) : ∀ k, -1 ≤ hiK l k ∧ hiK l k < k ∧ (1 ≤ k → 0 ≤ hiK l k)
  | 0 => by simp [hiK]
  | k + 1 => by
    have ih := hiK_bound l k
    unfold hiK
    split
    · omega
    · rename_i h
      rw [not_or] at h
      omega
theorem best_spec (l : List Int) : FnD Tryd.prog 157 [.sl 1 (ints l), .func (.func 158) [] []] (.int .i64 (hiK l l.length)) := by
  have hil := ints_pure l
  refine fnD_of mixed Tryd.func157 rfl rfl (by simp [Tryd.ntmps157]) fun hwf E => ?_
  simp (disch := omega) [go_sem, ints_len] at hwf
  simp (disch := omega) [Tryd.ntmps157, go_sem, ints_len]
  refine awz_loop mixed (fun k : Nat => ⟨[(10, .int .i64 k), (9, .int .i64 l.length), (8, .sl 1 (ints l)), (5, .int .i64 (hiK l k)), (1, .func (.func 158) [] []), (0, .sl 1 (ints l))], [], 1024, [], 29, 0, []⟩)
    (fun k => k ≤ l.length) (fun k => l.length - k) 0 (by omega) ?_ ?_
  · refine Le.mk [] [] ⟨rfl, rfl, rfl⟩ ?_ ?_ ?_ <;> simp [go_sem, hil, hiK]
  · intro k hk
    have hb := hiK_bound l k
    simp (disch := omega) [go_sem]
    refine br_of (fun h => ?_) (fun h => ?_) <;> simp at h
    · have hs : hiK l (k + 1) = if hiK l k < 0 ∨ l.getD (hiK l k).toNat 0 < l.getD k 0 then (k : Int) else hiK l k := rfl
      have hgk : l.getD k 0 = l[k] := by simp [h]
      rw [hgk] at hs
      by_cases hn : hiK l k < 0
      · rw [if_pos (.inl hn)] at hs
        simp (disch := omega) [go_sem, ints_len, nth_ints, h, hn]
        refine round_of (k + 1) (by omega) (by omega) (Le.mk [] [] ⟨rfl, rfl, rfl⟩ ?_ ?_ ?_) <;> simp [go_sem, hil, hs]
      · have ht : (hiK l k).toNat < l.length := by omega
        have hgt : l.getD (hiK l k).toNat 0 = l[(hiK l k).toNat] := by simp [ht]
        rw [hgt] at hs
        simp (disch := omega) [go_sem, ints_len, nth_ints, h, hn, ht]
        refine ⟨by omega, ?_⟩
        refine callK_bool (high1_spec l[k] l[(hiK l k).toNat]) [] (by simp [go_sem]) (fun h1 => ?_) (fun h1 => ?_)
        · simp at h1
          rw [if_pos (.inr h1)] at hs
          simp (disch := omega) [go_sem, hn]
          refine round_of (k + 1) (by omega) (by omega) (Le.mk [] [] ⟨rfl, rfl, rfl⟩ ?_ ?_ ?_) <;> simp [go_sem, hil, hs]
        · simp at h1
          rw [if_neg (by omega)] at hs
          simp (disch := omega) [go_sem, hn]
          refine round_of (k + 1) (by omega) (by omega) (Le.mk [] [] ⟨rfl, rfl, rfl⟩ ?_ ?_ ?_) <;> simp [go_sem, hil, hs]
    · have hkl : k = l.length := by omega
      subst hkl
      simp (disch := omega) [go_sem]

def highI (l : List Int) : Int := if loadedN l = 0 then hiK l l.length else 0
def highX (l : List Int) : Int := if loadedN l = 0 ∧ l ≠ [] then l.getD (hiK l l.length).toNat 0 else 0
theorem highest_spec (l : List Int) : FnD Tryd.prog 146 [.sl 1 (ints l)] (.tup [.int .i64 (highI l), .int .i64 (highX l), .int .i64 (loadedN l)]) := by
  have hil := ints_pure l
  have qb := best_spec l
  have hb := hiK_bound l l.length
  refine fnD_of mixed Tryd.func146 rfl rfl (by simp [Tryd.ntmps146]) fun hwf E => ?_
  simp (disch := omega) [go_sem, ints_len] at hwf
  simp (disch := omega) [Tryd.ntmps146, go_sem, ints_len]
  refine br_of (fun h1 => ?_) (fun h1 => ?_) <;> simp at h1
  · have e := loadedN_many (l := l) (by omega)
    have e1 : highI l = 0 := by unfold highI; rw [if_neg (by rw [e]; decide)]
    have e2 : highX l = 0 := by unfold highX; rw [if_neg (fun x => by rw [e] at x; exact absurd x.1 (by decide))]
    rw [e, e1, e2]
    simp (disch := omega) [go_sem]
  · have en : ¬ 1024 < l.length := by omega
    simp (disch := omega) [go_sem]
    refine awz_loop mixed (fun k : Nat => ⟨[(13, .int .i64 k), (12, .int .i64 l.length), (11, .sl 1 (ints l)), (0, .sl 1 (ints l))], [], 1024, [], 30, 0, []⟩)
      (fun k => k ≤ l.length ∧ ∀ i, ∀ h : i < l.length, i < k → fixI l[i] = true) (fun k => l.length - k) 0 ⟨by omega, fun i _ h => by omega⟩ ?_ ?_
    · refine Le.mk [] [] ⟨rfl, rfl, rfl⟩ ?_ ?_ ?_ <;> simp [go_sem, hil, ints_len]
    · rintro k ⟨hk, hno⟩
      simp (disch := omega) [go_sem]
      refine br_of (fun h => ?_) (fun h => ?_) <;> simp at h
      · simp (disch := omega) [go_sem, ints_len, nth_ints, h]
        refine callK_bool (lfixed_spec l[k]) [] (by simp [go_sem]) (fun h2 => ?_) (fun h2 => ?_)
        · simp (disch := omega) [go_sem]
          refine round_of (k + 1) ⟨by omega, fun i hi hik => ?_⟩ (by omega) (Le.mk [] [] ⟨rfl, rfl, rfl⟩ ?_ ?_ ?_)
          · by_cases e : i = k
            · subst e; exact h2
            · exact hno i hi (by omega)
          all_goals simp [go_sem, hil]
        · have e := loadedN_bad en k h h2
          have e1 : highI l = 0 := by unfold highI; rw [if_neg (by rw [e]; decide)]
          have e2 : highX l = 0 := by unfold highX; rw [if_neg (fun x => by rw [e] at x; exact absurd x.1 (by decide))]
          rw [e, e1, e2]
          simp (disch := omega) [go_sem]
      · have hkl : k = l.length := by omega
        subst hkl
        have e := loadedN_ok en fun i hi => hno i hi hi
        have e1 : highI l = hiK l l.length := by unfold highI; rw [if_pos e]
        have e2 : highX l = if l ≠ [] then l.getD (hiK l l.length).toNat 0 else 0 := by unfold highX; simp [e]
        rw [e, e1, e2]
        simp (disch := omega) [go_sem]
        refine callK_data qb [] (by simp [go_sem, hil]) (.inl rfl) (by simp [go_sem]) (fun _ => ?_)
        simp (disch := omega) [go_sem]
        by_cases h0 : l = []
        · subst h0
          simp (disch := omega) [go_sem, hiK, ints]
        · have h1 : 1 ≤ l.length := List.length_pos_iff.2 h0
          have h2 := hb.2.2 h1
          have h3 : (hiK l l.length).toNat < l.length := by omega
          have hg : l.getD (hiK l l.length).toNat 0 = l[(hiK l l.length).toNat] := by simp [h3]
          simp (disch := omega) [go_sem, h0, ints_len, nth_ints, h3, show ¬ hiK l l.length < 0 by omega]
          exact ⟨by omega, by kernel_rfl⟩
end Go.Proofs.YthjojamcolmbdaaDoor
