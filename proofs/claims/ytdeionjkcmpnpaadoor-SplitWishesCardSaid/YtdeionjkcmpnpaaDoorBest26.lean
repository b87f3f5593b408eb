
/- Plans that are wished: the plain law, and the chapter's example. -/
import Derived.Test.YtdeionjkcmpnpaaDoorSNext
import Derived.Test.YtdeionjkcmpnpaaDoorDec
set_option linter.unusedSimpArgs false
set_option linter.unusedVariables false
namespace Go.Proofs.YtdeionjkcmpnpaaDoor
open Go.AM Go.RowKit
set_option maxRecDepth 100000

/-- The first least one. -/
theorem bestK_at (l : List (Int × Int)) : ∀ k, 1 ≤ k → k ≤ l.length → ∃ j, j < k ∧ bestK l k = l.getD j (0, 0) ∧ (∀ i, i < k → (l.getD j (0, 0)).2 ≤ (l.getD i (0, 0)).2) ∧ ∀ i, i < j → (l.getD j (0, 0)).2 < (l.getD i (0, 0)).2 := by
  intro k
  induction k with
  | zero => intro h; omega
  | succ k ih =>
    intro _ hk
    by_cases h0 : k = 0
    · subst h0
      refine ⟨0, by omega, bestK_one l, fun i hi => ?_, fun i hi => by omega⟩
      have : i = 0 := by omega
      subst this; omega
    · obtain ⟨j, h1, h2, h3, h4⟩ := ih (by omega) (by omega)
      have hs : bestK l (k + 1) = if (l.getD k (0, 0)).2 < (bestK l k).2 then l.getD k (0, 0) else bestK l k := rfl
      by_cases hlt : (l.getD k (0, 0)).2 < (bestK l k).2
      · rw [if_pos hlt] at hs
        rw [h2] at hlt
        refine ⟨k, by omega, hs, fun i hi => ?_, fun i hi => ?_⟩
        · by_cases e : i = k
          · subst e; omega
          · have := h3 i (by omega); omega
        · have := h3 i (by omega); omega
      · rw [if_neg hlt] at hs
        rw [h2] at hlt
        refine ⟨j, by omega, hs.trans h2, fun i hi => ?_, h4⟩
        by_cases e : i = k
        · subst e; omega
        · exact h3 i (by omega)

/-- What is known of the plan that is wished. -/
theorem best_law (s : Sit) (v : Nat) (c : Int) (l : List Int) (hv : v < manyN s) : ∃ n : Nat, n < manyN s ∧ bestN s v c l = n ∧
    (wst s v c l (scaleN s n c) ≤ wst s v c l (scaleN s v c) ∧ (wst s v c l (scaleN s n c) = wst s v c l (scaleN s v c) → n = v)) ∧
    ∀ i, i < manyN s → wst s v c l (scaleN s n c) ≤ wst s v c l (scaleN s i c) ∧ (wst s v c l (scaleN s i c) = wst s v c l (scaleN s n c) → i < n → n = v) := by
  have r0 : (rowsK s v c l (manyN s)).getD 0 (0, 0) = ((v : Int), wst s v c l (scaleN s v c)) := rfl
  have r1 : ∀ i, i < manyN s → (rowsK s v c l (manyN s)).getD (i + 1) (0, 0) = ((i : Int), wst s v c l (scaleN s i c)) := fun i hi => by
    unfold rowsK
    simp [List.getD_cons_succ, List.getD_eq_getElem?_getD, hi]
  obtain ⟨j, h1, h2, h3, h4⟩ := bestK_at (rowsK s v c l (manyN s)) (manyN s + 1) (by omega) (by rw [rowsK_len]; omega)
  cases j with
  | zero =>
    rw [r0] at h2 h3 h4
    refine ⟨v, hv, by unfold bestN; rw [h2], ⟨by omega, fun _ => rfl⟩, fun i hi => ⟨?_, fun _ _ => rfl⟩⟩
    have := h3 (i + 1) (by omega)
    rw [r1 i hi] at this
    exact this
  | succ n =>
    have hn : n < manyN s := by omega
    rw [r1 n hn] at h2 h3 h4
    have h40 := h4 0 (by omega)
    rw [r0] at h40
    simp only at h3 h4 h40
    refine ⟨n, hn, by unfold bestN; rw [h2], ⟨by omega, fun e => by omega⟩, fun i hi => ⟨?_, fun e hlt => ?_⟩⟩
    · have := h3 (i + 1) (by omega)
      rw [r1 i hi] at this
      exact this
    · have := h4 (i + 1) (by omega)
      rw [r1 i hi] at this
      simp only at this
      omega
theorem wst_nil (s : Sit) (v : Nat) (c : Int) (q : Pln) : wst s v c [] q = 0 := by unfold wst; simp [mostK]
theorem best_nil (s : Sit) (v : Nat) (c : Int) (hv : v < manyN s) : bestN s v c [] = v := by
  obtain ⟨n, _, h1, ⟨_, h2⟩, _⟩ := best_law s v c [] hv
  rw [h1, h2 (by rw [wst_nil, wst_nil])]

/-! what is known where there is no error -/
theorem wish26_zero {s : Sit} {v x y c : Int} {l : List Int} (h : wish26E s v x y c l = 0) : SiteOk s ∧ wishOk s v x y c ∧ loadedN l = 0 := by
  unfold wish26E at h
  by_cases h1 : SiteOk s
  · rw [if_pos h1] at h
    by_cases h2 : wishOk s v x y c
    · rw [if_pos h2] at h; exact ⟨h1, h2, h⟩
    · rw [if_neg h2] at h; cases h
  · rw [if_neg h1] at h; cases h
theorem wish26_ok {s : Sit} {v x y c : Int} {l : List Int} (h1 : SiteOk s) (h2 : wishOk s v x y c) (h3 : loadedN l = 0) : wish26E s v x y c l = 0 ∧ wish26V s v x y c l = bestN s v.toNat c l := by
  have e : wish26E s v x y c l = 0 := by unfold wish26E; rw [if_pos h1, if_pos h2, h3]
  exact ⟨e, by unfold wish26V; rw [if_pos e]⟩
theorem manyN_le {s : Sit} (h : SiteOk s) : 1 ≤ manyN s ∧ manyN s ≤ 8 := by
  have h8 : s.plans.length ≤ 8 := h.shaped.2.2.2.2.2.1
  unfold manyN; split <;> omega
theorem scale_zero {s : Sit} {i c : Int} (h1 : SiteOk s) (h2 : scaleOk s i c) : scaleE s i c = 0 ∧ scaleV s i c = scaleN s i.toNat c := by
  unfold scaleE scaleV; rw [if_pos h1, if_pos h2, if_pos ⟨h1, h2⟩]; exact ⟨rfl, rfl⟩
theorem worst_scale {s : Sit} {i j : Nat} {c : Int} {l : List Int} (h1 : SiteOk s) (h3 : loadedN l = 0) : worstE s (scaleN s i c) (scaleN s j c) l = 0 ∧ worstV s (scaleN s i c) (scaleN s j c) l = wst s i c l (scaleN s j c) := by
  have hf := fun k => scale_fits k c h1
  exact ⟨by rw [worstE_fit h1 ⟨hf i, hf j⟩, h3], worstV_ok h1 ⟨hf i, hf j⟩ h3⟩

/-! the chapter's example -/
def twoN : Sit := ⟨1, [⟨1, 2, 1⟩, ⟨1, 2, 1⟩], [2, 1], [[0, 2], [2, 0]], [⟨1, 2, 5, 1, false⟩, ⟨2, 2, 5, 1, false⟩], [], 3, 2, 4, 8, 20, [⟨8, 0, [4, 4]⟩, ⟨16, 2, [4, 12]⟩, ⟨16, 2, [12, 4]⟩]⟩
theorem twoN_ok : SiteOk twoN := (siteB_iff twoN).1 (by decide +kernel)
theorem two_wish : wish26E twoN 0 0 0 20 [16384, 49152] = 0 ∧ wish26V twoN 0 0 0 20 [16384, 49152] = 1 := by
  have hm : manyN twoN = 3 := rfl
  obtain ⟨h1, h2⟩ := wish26_ok (s := twoN) (v := 0) (x := 0) (y := 0) (c := 20) (l := [16384, 49152]) twoN_ok ⟨⟨by omega, by rw [hm]; omega⟩, rfl, rfl, rfl⟩ (by decide)
  exact ⟨h1, h2.trans (by decide +kernel)⟩
end Go.Proofs.YtdeionjkcmpnpaaDoor
