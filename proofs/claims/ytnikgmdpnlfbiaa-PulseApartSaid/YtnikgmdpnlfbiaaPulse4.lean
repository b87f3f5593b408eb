/- The law PulseApart. -/
import Derived.Test.YtnikgmdpnlfbiaaPulse3
namespace Go.Proofs.Ytnikgmdpnlfbiaa
open Go.AM Go.RowKit
set_option maxRecDepth 100000

theorem cnt_run (l : List Bool) : ∀ (i j : Nat), j ≤ i → i + 1 - cnt l i ≤ j → l.getD j false = l.getD i false
  | 0, j, h, _ => by have : j = 0 := by omega
                     subst this; rfl
  | i + 1, j, h, h2 => by
    by_cases hj : j = i + 1
    · subst hj; rfl
    · simp only [cnt] at h2
      split at h2
      · rename_i e
        rw [cnt_run l i j (by omega) (by omega), e]
      · omega
theorem turns (hold : Int) (l : List Bool) (hl : l.length ≤ 400) (i : Nat) (h : i < l.length) (ht : (atP hold P0 l (i + 1)).1 ≠ (atP hold P0 l i).1) : hold ≤ cnt l i ∧ (atP hold P0 l (i + 1)).1 = l.getD i false := by
  rw [step_up hold l hl i h] at ht ⊢
  split at ht
  · rename_i e; exact ⟨e, by rw [if_pos e]⟩
  · exact absurd rfl ht
theorem far (hold : Int) (l : List Bool) (hl : l.length ≤ 400) (i m : Nat) (h : i < l.length) (hm : m < i) (ht : (atP hold P0 l (i + 1)).1 ≠ (atP hold P0 l i).1) (hu : l.getD m false = (atP hold P0 l i).1) : hold ≤ (i : Int) - m := by
  obtain ⟨h1, h2⟩ := turns hold l hl i h ht
  have h3 : l.getD m false ≠ l.getD i false := by rw [hu, ← h2]; exact fun e => ht e.symm
  have h4 : ¬ i + 1 - cnt l i ≤ m := fun h4 => h3 (cnt_run l i m (by omega) h4)
  omega
theorem run_one (l : List Bool) : ∀ (p : Pul), 0 ≤ p.2.2 → (runP 1 p l).2 = l := by
  induction l with
  | nil => intro p _; rfl
  | cons x l ih =>
    intro p hp
    simp only [runP]
    have hb := stepP_bound (hold := 1) (x := x) hp
    rw [ih _ hb.1]
    congr 1
    have hs : (if x = p.2.1 then p.2.2 else 0) ≥ 0 := by split <;> omega
    simp only [stepP]
    rw [if_pos (by omega)]

def lastOk (hold : Int) (l : List Bool) (i : Nat) (last : Int) : Prop := last = -1 ∨ ∃ m : Nat, last = m ∧ m < i ∧ l.getD m false = (atP hold P0 l i).1

theorem apart_spec (l : List Bool) (hold : Int) : FnD Try.prog 5 [.sl 1 (bools l), .int .i64 hold] (.bool true) := by
  refine fnD_of mixed Try.func5 rfl rfl (by simp [Try.ntmps5]) fun hwf E => ?_
  simp (disch := omega) [go_sem, bools_len] at hwf
  simp (disch := omega) [Try.ntmps5, go_sem, bools_len]
  refine callK_data alive_spec [] (by simp [go_sem]) (.inl rfl) (by simp [go_sem]) fun _ => ?_
  simp (disch := omega) [go_sem, bools_len]
  refine br_of (fun h => ?_) (fun h => ?_) <;> simp at h <;> simp (disch := omega) [go_sem, bools_len]
  have h1 := run_ok (p := P0) (l := l) (hold := 1) (by simp) (by omega) (by omega)
  rw [run_one l P0 (by simp)] at h1
  have hsm := same_spec l l
  rw [show decide (l = l) = true by simp] at hsm
  by_cases hh : 1 ≤ hold ∧ hold ≤ 1048576
  · refine callK_data (run_ok (p := P0) (l := l) (by simp) (by omega) hh) [] (by simp [go_sem, pulV, bools_pure]) (.inl rfl) (by simp [go_sem, pulV, bools_pure]) fun _ => ?_
    have hol : (runP hold P0 l).2.length = l.length := runP_len hold l P0
    have hog := out_get hold P0 l
    generalize (runP hold P0 l).2 = o at hol hog ⊢
    simp (disch := omega) [go_sem, bools_len, pulV]
    refine callK_data h1 [] (by simp [go_sem, pulV, bools_pure]) (.inl rfl) (by simp [go_sem, pulV, bools_pure]) fun _ => ?_
    simp (disch := omega) [go_sem, bools_len, pulV]
    refine callK_data hsm [] (by simp [go_sem, bools_pure]) (.inl rfl) (by simp [go_sem]) fun _ => ?_
    simp (disch := omega) [go_sem]
    refine awz_loop mixed (fun k : Nat × Int => ⟨[(13, .int .i64 ((k.1 : Int) + 1)), (12, .int .i64 k.2), (7, .sl 1 (bools o)), (8, .int .i64 0), (1, .int .i64 hold), (5, .bool true), (4, .bool false)], [], 2048, [], 75, 0, []⟩)
      (fun k => (k.1 = 0 ∨ k.1 + 1 ≤ l.length) ∧ lastOk hold l (k.1 + 1) k.2) (fun k => l.length - k.1) (0, -1) ⟨.inl rfl, .inl rfl⟩ ?_ ?_
    · refine Le.mk [] [] ⟨rfl, rfl, rfl⟩ ?_ ?_ ?_ <;> simp [go_sem, bools_pure]
    · rintro ⟨k, last⟩ ⟨hk, hlast⟩
      simp only at hk hlast
      simp (disch := omega) [go_sem, bools_len]
      refine br_of (fun h2 => ?_) (fun h2 => ?_) <;> simp at h2 <;> simp (disch := omega) [go_sem, bools_len]
      have hk1 : k + 1 < l.length := by omega
      have hk2 : k < l.length := by omega
      simp (disch := omega) [go_sem, bools_len, nth_bools, hol, hk1, hk2]
      have e1 := hog (k + 1) hk1 (by omega)
      have e0 := hog k hk2 (by omega)
      refine ⟨⟨by omega, by omega⟩, by kernel_rfl, br_of (fun h3 => ?_) (fun h3 => ?_)⟩ <;> simp at h3
      · simp (disch := omega) [go_sem]
        refine round_of (k + 1, last) ⟨.inr (by simp; omega), ?_⟩ (by simp; omega) (Le.mk [] [] ⟨rfl, rfl, rfl⟩ ?_ ?_ ?_)
        · rcases hlast with h | ⟨m, h4, h5, h6⟩
          · exact .inl h
          · exact .inr ⟨m, h4, by simp; omega, by rw [h6, ← e0, ← h3, e1]⟩
        all_goals simp (disch := omega) [go_sem, bools_pure]
      · have ht : (atP hold P0 l (k + 1 + 1)).1 ≠ (atP hold P0 l (k + 1)).1 := by rw [← e1, ← e0]; exact h3
        have hf : 0 ≤ last → ¬ (k : Int) + 1 - last < hold := by
          intro hl0
          rcases hlast with h | ⟨m, h4, h5, h6⟩
          · omega
          · have := far hold l (by omega) (k + 1) m hk1 h5 ht h6
            omega
        have hb : -1 ≤ last ∧ last ≤ k := by
          rcases hlast with h | ⟨m, h4, h5, h6⟩ <;> omega
        simp (disch := omega) [go_sem]
        refine br_of (fun h4 => ?_) (fun h4 => ?_) <;> simp at h4
        · exact absurd h4.2 (hf h4.1)
        · simp (disch := omega) [go_sem]
          refine round_of (k + 1, (k : Int) + 1) ⟨.inr (by simp; omega), .inr ⟨k + 1, by simp, by simp, ?_⟩⟩ (by simp; omega) (Le.mk [] [] ⟨rfl, rfl, rfl⟩ ?_ ?_ ?_)
          · exact (turns hold l (by omega) (k + 1) hk1 ht).2.symm
          all_goals simp (disch := omega) [go_sem, bools_pure]
  · have e : askedN P0 l.length hold = 2 := by
      simp only [askedN]; rw [if_neg (by simp), if_neg (by omega), if_pos (by omega)]
    have hr := run_bad (p := P0) (l := l) (hold := hold) (by rw [e]; decide)
    rw [e] at hr
    refine callK_data hr [] (by simp [go_sem, pulV, bools_pure]) (.inl rfl) (by simp [go_sem, pulV, bools_nil]) fun _ => ?_
    simp (disch := omega) [go_sem, bools_len, pulV, bools_nil]
    refine callK_data h1 [] (by simp [go_sem, pulV, bools_pure]) (.inl rfl) (by simp [go_sem, pulV, bools_pure]) fun _ => ?_
    simp (disch := omega) [go_sem, bools_len, pulV]
    refine callK_data hsm [] (by simp [go_sem, bools_pure]) (.inl rfl) (by simp [go_sem]) fun _ => ?_
    simp (disch := omega) [go_sem]
    refine awz_loop mixed (fun _ : Unit => ⟨[(13, .int .i64 1), (7, .sl 1 []), (8, .int .i64 2), (5, .bool true), (4, .bool false)], [], 2048, [], 75, 0, []⟩)
      (fun _ => True) (fun _ => 0) () trivial ?_ ?_
    · refine Le.mk [] [] ⟨rfl, rfl, rfl⟩ ?_ ?_ ?_ <;> simp [go_sem]
    · intro _ _
      simp (disch := omega) [go_sem]
end Go.Proofs.Ytnikgmdpnlfbiaa
