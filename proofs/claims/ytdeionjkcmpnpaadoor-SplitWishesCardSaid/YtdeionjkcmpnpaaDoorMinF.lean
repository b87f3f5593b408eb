
/- slices.MinFunc over the rows of split.Wish. -/
import Derived.Test.YtdeionjkcmpnpaaDoorScale2
set_option linter.unusedSimpArgs false
set_option linter.unusedVariables false
namespace Go.Proofs.YtdeionjkcmpnpaaDoor
open Go.AM Go.RowKit
set_option maxRecDepth 100000

def rowV (r : Int × Int) : V := .agg [.int .i64 r.1, .int .i64 r.2]
theorem rowsV_pure (l : List (Int × Int)) : pures (l.map rowV) := pures_map _ (fun u => by simp [rowV, go_sem]) l
def cmpN (a b : Int × Int) : Int := if a.2 < b.2 then -1 else if b.2 < a.2 then 1 else 0
theorem wish1_spec (a b : Int × Int) : FnD Tryd.prog 58 [rowV a, rowV b] (.int .i64 (cmpN a b)) := by
  unfold rowV
  refine fnD_of mixed Tryd.func58 rfl rfl (by simp [Tryd.ntmps58]) fun hwf E => ?_
  clear hwf
  simp (disch := omega) [Tryd.ntmps58, go_sem]
  unfold cmpN
  refine br_of (fun h => ?_) (fun h => ?_) <;> simp at h
  · simp (disch := omega) [go_sem, h]
  · have h' : ¬ a.2 < b.2 := by omega
    simp (disch := omega) [go_sem]
    refine br_of (fun g => ?_) (fun g => ?_) <;> simp at g
    · simp (disch := omega) [go_sem, h', g]
    · have g' : ¬ b.2 < a.2 := by omega
      simp (disch := omega) [go_sem, h', g']
def bestK (l : List (Int × Int)) : Nat → Int × Int
  | 0 => l.getD 0 (0, 0)
  | k + 1 => if (l.getD k (0, 0)).2 < (bestK l k).2 then l.getD k (0, 0) else bestK l k
theorem bestK_one (l : List (Int × Int)) : bestK l 1 = l.getD 0 (0, 0) := by simp [bestK]

set_option maxHeartbeats 1000000 in
theorem minFunc_spec (l : List (Int × Int)) (h0 : 0 < l.length) : FnD Tryd.prog 57 [.sl 2 (l.map rowV), .func (.func 58) [] []] (rowV (bestK l l.length)) := by
  have hpl := rowsV_pure l
  have qw := fun a b => wish1_spec a b
  have hg0 : nth (l.map rowV) 0 = rowV l[0] := nth_map h0
  refine fnD_of mixed Tryd.func57 rfl rfl (by simp [Tryd.ntmps57]) fun hwf E => ?_
  simp (disch := omega) [go_sem] at hwf
  simp (disch := omega) [Tryd.ntmps57, go_sem]
  refine br_of (fun h => ?_) (fun h => ?_) <;> simp at h
  · exfalso; omega
  · simp (disch := omega) [go_sem, h0, hg0, rowV]
    have hb1 : bestK l 1 = l[0] := by rw [bestK_one]; simp [h0]
    refine awz_loop mixed (fun k : Nat => ⟨[(6, .int .i64 k), (5, .ptr 112 1 0 0), (4, .ptr 0 1 0 0), (0, .sl 2 (l.map rowV)), (1, .func (.func 58) [] [])], [(112, ⟨.box, 111, 2, [rowV (bestK l k)]⟩), (0, ⟨.box, 111, 2, [.agg [.int .i64 0, .int .i64 0]]⟩)], 1024, [], 33, 0, []⟩)
      (fun k => 1 ≤ k ∧ k ≤ l.length) (fun k => l.length - k) 1 (by omega) ?_ ?_
    · refine (Le.mk [(0, some 0), (112, some 112)] [0, 112] ⟨rfl, rfl, rfl⟩ ?_ ?_ ?_) <;> simp [go_sem, hpl, hb1, rowV]
    · rintro k ⟨hk1, hk⟩
      simp (disch := omega) [go_sem]
      refine br_of (fun g => ?_) (fun g => ?_) <;> simp at g
      · have g' : k < l.length := by omega
        have hg : nth (l.map rowV) k = rowV l[k] := nth_map g'
        have hbs : bestK l (k + 1) = if l[k].2 < (bestK l k).2 then l[k] else bestK l k := by simp [bestK, g']
        have q := qw l[k] (bestK l k)
        simp (disch := omega) [go_sem, g', hg, rowV]
        refine callK_data q [] (by simp [go_sem, rowV]) (.inl rfl) (by simp [go_sem]) (fun _ => ?_)
        by_cases hlt : l[k].2 < (bestK l k).2
        · have hc : cmpN l[k] (bestK l k) = -1 := by unfold cmpN; rw [if_pos hlt]
          rw [hc]
          simp (disch := omega) [go_sem, g', hg, rowV]
          refine ⟨.inl (by kernel_rfl), ?_⟩
          refine round_of (k + 1) (by omega) (by omega) (Le.mk [(0, some 0), (112, some 112)] [0, 112] ⟨rfl, rfl, rfl⟩ ?_ ?_ ?_) <;> simp [go_sem, hpl, hbs, hlt, rowV]
        · have hc : ¬ cmpN l[k] (bestK l k) < 0 := by unfold cmpN; rw [if_neg hlt]; split <;> omega
          simp (disch := omega) [go_sem, g', hg, rowV, hc]
          refine ⟨.inl (by kernel_rfl), ?_⟩
          refine round_of (k + 1) (by omega) (by omega) (Le.mk [(0, some 0), (112, some 112)] [0, 112] ⟨rfl, rfl, rfl⟩ ?_ ?_ ?_) <;> simp [go_sem, hpl, hbs, hlt, rowV]
      · have hkl : k = l.length := by omega
        subst hkl
        simp (disch := omega) [go_sem, rowV]
end Go.Proofs.YtdeionjkcmpnpaaDoor
