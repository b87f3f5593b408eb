/- The laws on the layer pulse. -/
import Derived.Test.YtnikgmdpnlfbiaaPulse2
namespace Go.Proofs.Ytnikgmdpnlfbiaa
open Go.AM Go.RowKit
set_option maxRecDepth 100000

abbrev P0 : Pul := (false, false, 0)
/-- How many ticks in a row, up to and with this one, say what it says. -/
def cnt (l : List Bool) : Nat → Nat
  | 0 => 1
  | i + 1 => if l.getD i false = l.getD (i + 1) false then cnt l i + 1 else 1
theorem cnt_pos (l : List Bool) (i : Nat) : 1 ≤ cnt l i ∧ cnt l i ≤ i + 1 := by
  induction i with
  | zero => simp [cnt]
  | succ i ih => simp only [cnt]; split <;> omega
theorem cnt_eq (l : List Bool) : ∀ (i m : Nat), m ≤ i → (∀ j, m ≤ j → j ≤ i → l.getD j false = l.getD i false) → (m = 0 ∨ l.getD (m - 1) false ≠ l.getD i false) → cnt l i = i + 1 - m
  | 0, m, h, _, _ => by have : m = 0 := by omega
                        subst this; rfl
  | i + 1, m, h, ha, hb => by
    simp only [cnt]
    by_cases hm : m = i + 1
    · subst hm
      have hb := hb.resolve_left (by omega)
      rw [if_neg (by simpa using hb)]; omega
    · have e := ha i (by omega) (by omega)
      rw [if_pos e, cnt_eq l i m (by omega) (fun j h1 h2 => by rw [ha j h1 (by omega), e]) (by rcases hb with h | h; exact .inl h; exact .inr (by rw [e]; exact h))]
      omega
theorem at_cnt (hold : Int) (l : List Bool) (hl : l.length ≤ 400) : ∀ (i : Nat), i < l.length → (atP hold P0 l (i + 1)).2.1 = l.getD i false ∧ (atP hold P0 l (i + 1)).2.2 = cnt l i
  | 0, h => by
    rw [atP_succ h, atP_zero, show l.getD 0 false = l[0] by simp [h]]
    generalize l[0] = x
    refine ⟨rfl, ?_⟩
    cases x
    · show min ((if false = false then (0 : Int) else 0) + 1) 1048576 = 1; decide
    · show min ((if true = false then (0 : Int) else 0) + 1) 1048576 = 1; decide
  | i + 1, h => by
    have ih := at_cnt hold l hl i (by omega)
    have hc := cnt_pos l i
    rw [atP_succ h, show l.getD (i + 1) false = l[i + 1] by simp [h]]
    refine ⟨rfl, ?_⟩
    simp only [stepP, ih.1, ih.2, cnt, show l.getD (i + 1) false = l[i + 1] by simp [h]]
    split
    · rename_i e; rw [if_pos e.symm]; omega
    · rename_i e; rw [if_neg (fun e2 => e e2.symm)]; omega
theorem step_up (hold : Int) (l : List Bool) (hl : l.length ≤ 400) (i : Nat) (h : i < l.length) : (atP hold P0 l (i + 1)).1 = if (cnt l i : Int) ≥ hold then l.getD i false else (atP hold P0 l i).1 := by
  have e := (at_cnt hold l hl i h).2
  rw [atP_succ h] at e ⊢
  rw [show l.getD i false = l[i] by simp [h], ← e]
  rfl
theorem up_false (hold : Int) (l : List Bool) (hl : l.length ≤ 400) : ∀ (i : Nat), i < l.length → l.getD i false = false → cnt l i = i + 1 → (atP hold P0 l (i + 1)).1 = false
  | 0, h, h1, _ => by
    rw [step_up hold l hl 0 h, h1, atP_zero]; simp
  | i + 1, h, h1, h2 => by
    have hc := cnt_pos l i
    rw [step_up hold l hl (i + 1) h, h1]
    simp only [cnt] at h2
    split at h2
    · rename_i e
      rw [up_false hold l hl i (by omega) (by rw [e, h1]) (by omega)]; simp
    · omega
theorem out_get (hold : Int) (p : Pul) (l : List Bool) (i : Nat) (h : i < l.length) (h2 : i < (runP hold p l).2.length) : (runP hold p l).2[i] = (atP hold p l (i + 1)).1 := by
  have : ∀ k, i < k → (hk : k ≤ l.length) → (outP hold p l k)[i]? = some (atP hold p l (i + 1)).1 := by
    intro k hik
    induction k with
    | zero => omega
    | succ k ih =>
      intro hk
      rw [outP_succ (by omega)]
      by_cases e : i = k
      · subst e
        rw [List.getElem?_append_right (by rw [outP_len (by omega)]; omega), outP_len (by omega), atP_succ h]; simp
      · rw [List.getElem?_append_left (by rw [outP_len (by omega)]; omega)]
        exact ih (by omega) (by omega)
  have := this l.length h (Nat.le_refl _)
  simp only [outP, List.take_length] at this
  rw [List.getElem?_eq_some_iff] at this
  exact this.2
/-- What the law wants of a tick. -/
theorem wantA (hold : Int) (l : List Bool) (hl : l.length ≤ 400) (i : Nat) (h : i < l.length) (h1 : l[i] = false) (h2 : cnt l i = i + 1) : (atP hold P0 l (i + 1)).1 = l[i] := by
  rw [up_false hold l hl i h (by simp [h, h1]) h2, h1]
theorem wantB (hold : Int) (l : List Bool) (hl : l.length ≤ 400) (i : Nat) (h : i < l.length) (h1 : hold ≤ cnt l i) : (atP hold P0 l (i + 1)).1 = l[i] := by
  rw [step_up hold l hl i h, if_pos h1]; simp [h]
theorem wantC (hold : Int) (l : List Bool) (hl : l.length ≤ 400) (i : Nat) (h : i < l.length) (h1 : (cnt l i : Int) < hold) : (atP hold P0 l (i + 1)).1 = (atP hold P0 l i).1 := by
  rw [step_up hold l hl i h, if_neg (by omega)]

theorem run_ok {p : Pul} {l : List Bool} {hold : Int} (hp : 0 ≤ p.2.2 ∧ p.2.2 ≤ 1048576) (hm : (l.length : Int) ≤ 4096) (hh : 1 ≤ hold ∧ hold ≤ 1048576) :
    FnD Try.prog 12 [pulV p, .sl 1 (bools l), .int .i64 hold] (.tup [pulV (runP hold p l).1, .sl 1 (bools (runP hold p l).2), .int .i64 0]) := by
  have h := run_spec p l hold
  rwa [askedN_yes hp hm hh, if_pos rfl, if_pos rfl] at h
theorem run_bad {p : Pul} {l : List Bool} {hold : Int} (h : askedN p l.length hold ≠ 0) :
    FnD Try.prog 12 [pulV p, .sl 1 (bools l), .int .i64 hold] (.tup [pulV (false, false, 0), .sl 1 (bools []), .int .i64 (askedN p l.length hold)]) := by
  have h' := run_spec p l hold
  rwa [if_neg h, if_neg h] at h'

def alike (l : List Bool) (i m : Nat) : Prop := ∀ j, m ≤ j → j ≤ i → l.getD j false = l.getD i false
theorem holds_spec (l : List Bool) (hold : Int) : FnD Try.prog 4 [.sl 1 (bools l), .int .i64 hold] (.bool true) := by
  refine fnD_of mixed Try.func4 rfl rfl (by simp [Try.ntmps4]) fun hwf E => ?_
  simp (disch := omega) [go_sem, bools_len] at hwf
  simp (disch := omega) [Try.ntmps4, go_sem, bools_len]
  refine callK_data alive_spec [] (by simp [go_sem]) (.inl rfl) (by simp [go_sem]) fun _ => ?_
  simp (disch := omega) [go_sem, bools_len]
  refine br_of (fun h => ?_) (fun h => ?_) <;> simp at h <;> simp (disch := omega) [go_sem, bools_len]
  by_cases hh : 1 ≤ hold ∧ hold ≤ 1048576
  · refine callK_data (run_ok (p := P0) (l := l) (by simp) (by omega) hh) [] (by simp [go_sem, pulV, bools_pure]) (.inl rfl) (by simp [go_sem, pulV, bools_pure]) fun _ => ?_
    simp (disch := omega) [go_sem, bools_len, pulV, runP_len]
    have hol : (runP hold P0 l).2.length = l.length := runP_len hold l P0
    have hog := out_get hold P0 l
    generalize (runP hold P0 l).2 = o at hol hog ⊢
    refine awz_loop mixed (fun k : Nat => ⟨[(10, .int .i64 k), (9, .bool (atP hold P0 l k).1), (0, .sl 1 (bools l)), (1, .int .i64 hold), (7, .sl 1 (bools (o))), (5, .bool true), (4, .bool false)], [], 1024, [], 105, 0, []⟩)
      (fun k => k ≤ l.length) (fun k => l.length - k) 0 (by simp) ?_ ?_
    · refine Le.mk [] [] ⟨rfl, rfl, rfl⟩ ?_ ?_ ?_ <;> simp [go_sem, bools_pure, atP_zero]
    · intro i hi
      simp (disch := omega) [go_sem, bools_len]
      refine br_of (fun h1 => ?_) (fun h1 => ?_) <;> simp at h1 <;> simp (disch := omega) [go_sem, bools_len]
      refine awz_loop mixed (fun m : Nat => ⟨[(12, .int .i64 ((m : Int) - 1)), (11, .int .i64 ((i : Int) + 1 - m)), (10, .int .i64 i), (9, .bool (atP hold P0 l i).1), (0, .sl 1 (bools l)), (1, .int .i64 hold), (7, .sl 1 (bools (o))), (5, .bool true), (4, .bool false)], [], 2048, [], 105, 0, []⟩)
        (fun m => m ≤ i + 1 ∧ alike l i m) (fun m => m) (i + 1) ?_ ?_ ?_
      · exact ⟨by omega, fun j h1 h2 => by omega⟩
      · refine Le.mk [] [] ⟨rfl, rfl, rfl⟩ ?_ ?_ ?_ <;> simp [go_sem, bools_pure]
      · rintro m ⟨hm, hall⟩
        rcases m with _ | n
        · have hn : 0 < l.length := by omega
          have hc := cnt_eq l i 0 (by omega) hall (.inl rfl)
          simp (disch := omega) [go_sem, bools_len, nth_bools, hn, h1]
          refine ⟨by kernel_rfl, br_of (fun h3 => ?_) (fun h3 => ?_)⟩ <;> simp at h3
          · have hw := (hog i h1 (by omega)).trans (wantA hold l (by omega) i h1 h3 (by omega))
            simp (disch := omega) [go_sem, bools_len, nth_bools, h1, hol, hw, hh.2]
            refine round_of (i + 1) (by omega) (by omega) (Le.mk [] [] ⟨rfl, rfl, rfl⟩ ?_ ?_ ?_)
            all_goals simp (disch := omega) [go_sem, bools_pure, ← hog i h1, hw, hol, h1]
          · simp (disch := omega) [go_sem, bools_len]
            refine br_of (fun h4 => ?_) (fun h4 => ?_) <;> simp at h4
            · have hw := (hog i h1 (by omega)).trans (wantB hold l (by omega) i h1 (by omega))
              simp (disch := omega) [go_sem, bools_len, nth_bools, h1, hol, hw, hh.2]
              refine round_of (i + 1) (by omega) (by omega) (Le.mk [] [] ⟨rfl, rfl, rfl⟩ ?_ ?_ ?_)
              all_goals simp (disch := omega) [go_sem, bools_pure, ← hog i h1, hw, hol, h1]
            · have hw := (hog i h1 (by omega)).trans (wantC hold l (by omega) i h1 (by omega))
              simp (disch := omega) [go_sem, bools_len, nth_bools, h1, hol, hw, hh.2]
              refine round_of (i + 1) (by omega) (by omega) (Le.mk [] [] ⟨rfl, rfl, rfl⟩ ?_ ?_ ?_)
              all_goals simp (disch := omega) [go_sem, bools_pure, ← hog i h1, hw, hol, h1]
        · have hn : n < l.length := by omega
          have e1 : l.getD n false = l[n] := by simp [hn]
          have e2 : l.getD i false = l[i] := by simp [h1]
          simp (disch := omega) [go_sem, bools_len, nth_bools, hn, h1]
          refine ⟨by kernel_rfl, br_of (fun h2 => ?_) (fun h2 => ?_)⟩ <;> simp at h2
          · simp (disch := omega) [go_sem, bools_len]
            refine round_of n ⟨by omega, fun j h3 h4 => ?_⟩ (by omega) (Le.mk [] [] ⟨rfl, rfl, rfl⟩ ?_ ?_ ?_)
            · by_cases hj : j = n
              · subst hj; rw [e1, e2, h2]
              · exact hall j (by omega) h4
            all_goals simp (disch := omega) [go_sem, bools_pure]
            all_goals omega
          · have hni : n ≠ i := by rintro rfl; exact h2 rfl
            have hc := cnt_eq l i (n + 1) (by omega) hall (.inr (by simp [hn, h1, h2]))
            simp (disch := omega) [go_sem, bools_len, nth_bools, h1]
            refine br_of (fun h3 => ?_) (fun h3 => ?_)
            · simp at h3; omega
            · clear h3
              simp (disch := omega) [go_sem, bools_len]
              refine br_of (fun h4 => ?_) (fun h4 => ?_) <;> simp at h4
              · have hw := (hog i h1 (by omega)).trans (wantB hold l (by omega) i h1 (by omega))
                simp (disch := omega) [go_sem, bools_len, nth_bools, h1, hol, hw, hh.2]
                refine round_of (i + 1) (by omega) (by omega) (Le.mk [] [] ⟨rfl, rfl, rfl⟩ ?_ ?_ ?_)
                all_goals simp (disch := omega) [go_sem, bools_pure, ← hog i h1, hw, hol, h1]
              · have hw := (hog i h1 (by omega)).trans (wantC hold l (by omega) i h1 (by omega))
                simp (disch := omega) [go_sem, bools_len, nth_bools, h1, hol, hw, hh.2]
                refine round_of (i + 1) (by omega) (by omega) (Le.mk [] [] ⟨rfl, rfl, rfl⟩ ?_ ?_ ?_)
                all_goals simp (disch := omega) [go_sem, bools_pure, ← hog i h1, hw, hol, h1]
  · have e : askedN P0 l.length hold = 2 := by
      simp only [askedN]; rw [if_neg (by simp), if_neg (by omega), if_pos (by omega)]
    have hr := run_bad (p := P0) (l := l) (hold := hold) (by rw [e]; decide)
    rw [e] at hr
    refine callK_data hr [] (by simp [go_sem, pulV, bools_pure]) (.inl rfl) (by simp [go_sem, pulV, bools_nil]) fun _ => ?_
    simp (disch := omega) [go_sem, bools_len, pulV, bools_nil]
    omega
end Go.Proofs.Ytnikgmdpnlfbiaa
