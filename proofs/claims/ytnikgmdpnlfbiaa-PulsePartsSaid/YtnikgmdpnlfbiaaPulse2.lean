/- Contracts of the layer pulse: a tick, the document's own, lists of truths. -/
import Derived.Test.YtnikgmdpnlfbiaaPulse
namespace Go.Proofs.Ytnikgmdpnlfbiaa
open Go.AM Go.RowKit
set_option maxRecDepth 100000

theorem askedN_yes {p : Pul} {many hold : Int} (hp : 0 ≤ p.2.2 ∧ p.2.2 ≤ 1048576) (hm : many ≤ 4096) (hh : 1 ≤ hold ∧ hold ≤ 1048576) : askedN p many hold = 0 := by
  simp only [askedN]; rw [if_neg (by omega), if_neg (by omega), if_neg (by omega)]
theorem askedN_ok {p : Pul} {many hold : Int} (h : askedN p many hold = 0) : (0 ≤ p.2.2 ∧ p.2.2 ≤ 1048576) ∧ many ≤ 4096 ∧ 1 ≤ hold ∧ hold ≤ 1048576 := by
  simp only [askedN] at h
  repeat' split at h
  all_goals first | omega | cases h

/-- A pulse a tick later, and the error. -/
def nextE (p : Pul) (x : Bool) (hold : Int) : V := .tup [pulV (if askedN p 1 hold = 0 then stepP hold p x else (false, false, 0)), .int .i64 (askedN p 1 hold)]
def runE (p : Pul) (l : List Bool) (hold : Int) : V := .tup [pulV (if askedN p l.length hold = 0 then (runP hold p l).1 else (false, false, 0)), .sl 1 (bools (if askedN p l.length hold = 0 then (runP hold p l).2 else [])), .int .i64 (askedN p l.length hold)]

theorem next_spec (p : Pul) (x : Bool) (hold : Int) : FnD Try.prog 14 [pulV p, .bool x, .int .i64 hold] (nextE p x hold) := by
  obtain ⟨u, r, s⟩ := p
  have hr := run_spec (u, r, s) [x] hold
  unfold pulV
  refine fnD_of mixed Try.func14 rfl rfl (by simp [Try.ntmps14]) fun hwf E => ?_
  simp (disch := omega) [Try.ntmps14, go_sem]
  refine callK_frz hr [80] [(80, ⟨.ro, 4, 1, bools [x]⟩)] ?_ ?_ ?_ fun _ => ?_
  · simp [go_sem, pulV, bools]
  · simp [go_sem, bools]
  · simp [go_sem, pulV, bools_pure]
  · simp (disch := omega) [go_sem, pulV, nextE, runP]

theorem rnext_spec (p : Pul) (x : Bool) (hold : Int) (hp : 0 ≤ p.2.2 ∧ p.2.2 ≤ 1048576) : FnD Try.prog 24 [pulV p, .bool x, .int .i64 hold] (pulV (stepP hold p x)) := by
  obtain ⟨u, r, s⟩ := p
  simp only at hp
  unfold pulV
  refine fnD_of mixed Try.func24 rfl rfl (by simp [Try.ntmps24]) fun hwf E => ?_
  simp (disch := omega) [Try.ntmps24, go_sem]
  have hm : (if 1048576 < s + 1 then (1048576 : Int) else s + 1) = min (s + 1) 1048576 := by split <;> omega
  refine br_of (fun h => ?_) (fun h => ?_) <;> simp at h <;> simp (disch := omega) [go_sem, hm]
  · refine br_of (fun h2 => ?_) (fun h2 => ?_) <;> simp at h2 <;> simp (disch := omega) [go_sem, stepP, h, pulV]
    all_goals (intro; omega)
  · refine br_of (fun h2 => ?_) (fun h2 => ?_) <;> simp at h2 <;> simp (disch := omega) [go_sem, stepP, h, pulV]
    all_goals exact ⟨fun _ => by omega, by omega⟩

theorem bools_eq {a b : List Bool} (h : a.length = b.length) (hall : ∀ j (h1 : j < a.length) (h2 : j < b.length), a[j] = b[j]) : a = b := List.ext_getElem h fun j h1 h2 => hall j h1 h2

theorem same_spec (a b : List Bool) : FnD Try.prog 13 [.sl 1 (bools a), .sl 1 (bools b)] (.bool (decide (a = b))) := by
  refine fnD_of mixed Try.func13 rfl rfl (by simp [Try.ntmps13]) fun hwf E => ?_
  simp (disch := omega) [go_sem, bools_len] at hwf
  simp (disch := omega) [Try.ntmps13, go_sem, bools_len]
  refine br_of (fun h => ?_) (fun h => ?_) <;> simp at h <;> simp (disch := omega) [go_sem, bools_len]
  · intro e; subst e; exact h rfl
  · refine awz_loop mixed (fun k : Nat => ⟨[(5, .int .i64 k), (0, .sl 1 (bools a)), (1, .sl 1 (bools b)), (4, .bool false)], [], 64, [], 26, 0, []⟩)
      (fun k => k ≤ a.length ∧ ∀ j (h1 : j < a.length) (h2 : j < b.length), j < k → a[j] = b[j]) (fun k => a.length - k) 0 (by simp) ?_ ?_
    · refine Le.mk [] [] ⟨rfl, rfl, rfl⟩ ?_ ?_ ?_ <;> simp [go_sem, bools_pure]
    · rintro k ⟨hk, hno⟩
      simp (disch := omega) [go_sem, bools_len]
      refine br_of (fun h1 => ?_) (fun h1 => ?_) <;> simp at h1
      · have hb : k < b.length := by omega
        simp (disch := omega) [go_sem, bools_len, nth_bools, h1, hb]
        refine ⟨by kernel_rfl, ?_⟩
        refine br_of (fun h2 => ?_) (fun h2 => ?_) <;> simp at h2 <;> simp (disch := omega) [go_sem]
        · intro e; subst e; exact h2 rfl
        · refine round_of (k + 1) ⟨h1, fun j h3 h4 hj => ?_⟩ (by omega) (Le.mk [] [] ⟨rfl, rfl, rfl⟩ ?_ ?_ ?_)
          · by_cases e : j = k
            · subst e; exact h2
            · exact hno j h3 h4 (by omega)
          all_goals simp (disch := omega) [go_sem, bools_pure]
      · simp (disch := omega) [go_sem]
        exact bools_eq (by omega) fun j h3 h4 => hno j h3 h4 (by omega)
theorem rsame_spec (a b : List Bool) : FnD Try.prog 17 [.sl 1 (bools a), .sl 1 (bools b)] (.bool (decide (a = b))) := by
  refine fnD_of mixed Try.func17 rfl rfl (by simp [Try.ntmps17]) fun hwf E => ?_
  simp (disch := omega) [go_sem, bools_len] at hwf
  simp (disch := omega) [Try.ntmps17, go_sem, bools_len]
  refine br_of (fun h => ?_) (fun h => ?_) <;> simp at h <;> simp (disch := omega) [go_sem, bools_len]
  · intro e; subst e; exact h rfl
  · refine awz_loop mixed (fun k : Nat => ⟨[(5, .int .i64 k), (0, .sl 1 (bools a)), (1, .sl 1 (bools b)), (4, .bool false)], [], 64, [], 26, 0, []⟩)
      (fun k => k ≤ a.length ∧ ∀ j (h1 : j < a.length) (h2 : j < b.length), j < k → a[j] = b[j]) (fun k => a.length - k) 0 (by simp) ?_ ?_
    · refine Le.mk [] [] ⟨rfl, rfl, rfl⟩ ?_ ?_ ?_ <;> simp [go_sem, bools_pure]
    · rintro k ⟨hk, hno⟩
      simp (disch := omega) [go_sem, bools_len]
      refine br_of (fun h1 => ?_) (fun h1 => ?_) <;> simp at h1
      · have hb : k < b.length := by omega
        simp (disch := omega) [go_sem, bools_len, nth_bools, h1, hb]
        refine ⟨by kernel_rfl, ?_⟩
        refine br_of (fun h2 => ?_) (fun h2 => ?_) <;> simp at h2 <;> simp (disch := omega) [go_sem]
        · intro e; subst e; exact h2 rfl
        · refine round_of (k + 1) ⟨h1, fun j h3 h4 hj => ?_⟩ (by omega) (Le.mk [] [] ⟨rfl, rfl, rfl⟩ ?_ ?_ ?_)
          · by_cases e : j = k
            · subst e; exact h2
            · exact hno j h3 h4 (by omega)
          all_goals simp (disch := omega) [go_sem, bools_pure]
      · simp (disch := omega) [go_sem]
        exact bools_eq (by omega) fun j h3 h4 => hno j h3 h4 (by omega)

theorem bools_snoc (l : List Bool) (b : Bool) : bools (l ++ [b]) = bools l ++ [.bool b] := by simp [bools]

def rrF (p : Pul) (l : List Bool) (hold : Int) (k : Nat) : St := ⟨[(10, .int .i64 k), (9, if k = 0 then .nilS else .obj 64 k), (3, .ptr 0 1 0 0), (6, .ptr 16 1 0 0), (1, .sl 1 (bools l)), (2, .int .i64 hold), (7, .nilS), (8, .int .i64 0)],
  [(0, ⟨.box, 34, 3, [pulV (atP hold p l k)]⟩), (16, ⟨.box, 34, 3, [pulV (false, false, 0)]⟩)] ++ (if k = 0 then [] else [(64, ⟨.arr, 4, 1, bools (outP hold p l k)⟩)]), 240, [], 51, 0, []⟩

theorem rrun_spec (p : Pul) (l : List Bool) (hold : Int) : FnD Try.prog 16 [pulV p, .sl 1 (bools l), .int .i64 hold] (runE p l hold) := by
  obtain ⟨u, r, s⟩ := p
  unfold pulV
  refine fnD_of mixed Try.func16 rfl rfl (by simp [Try.ntmps16]) fun hwf E => ?_
  simp (disch := omega) [go_sem, bools_len] at hwf
  simp (disch := omega) [Try.ntmps16, go_sem, bools_len]
  refine br_of (fun h1 => ?_) (fun h1 => ?_) <;> simp at h1 <;> simp (disch := omega) [go_sem, bools_len]
  · have e : askedN (u, r, s) l.length hold = 8 := by simp only [askedN]; rw [if_pos (by omega)]
    simp (disch := omega) [go_sem, runE, pulV, e, bools_nil]
  · have n1 : ¬ (s < 0 ∨ s > 1048576) := by omega
    refine br_of (fun h2 => ?_) (fun h2 => ?_) <;> simp at h2 <;> simp (disch := omega) [go_sem, bools_len]
    · have e : askedN (u, r, s) l.length hold = 4 := by simp only [askedN]; rw [if_neg n1, if_pos (by omega)]
      simp (disch := omega) [go_sem, runE, pulV, e, bools_nil]
    · have n2 : ¬ (l.length : Int) > 4096 := by omega
      refine br_of (fun h3 => ?_) (fun h3 => ?_) <;> simp at h3 <;> simp (disch := omega) [go_sem, bools_len]
      · have e : askedN (u, r, s) l.length hold = 2 := by simp only [askedN]; rw [if_neg n1, if_neg n2, if_pos (by omega)]
        simp (disch := omega) [go_sem, runE, pulV, e, bools_nil]
      · have hp0 : 0 ≤ s ∧ s ≤ 1048576 := ⟨by omega, by omega⟩
        have e : askedN (u, r, s) l.length hold = 0 := askedN_yes hp0 (by omega) ⟨by omega, by omega⟩
        have hp : 0 ≤ ((u, r, s) : Pul).2.2 ∧ ((u, r, s) : Pul).2.2 ≤ 1048576 := hp0
        have hsa : pulV (u, r, s) = .agg [.bool u, .bool r, .int .i64 s] := rfl
        rw [← hsa]
        clear hsa hwf
        generalize ((u, r, s) : Pul) = p at *
        refine awz_loop mixed (rrF p l hold) (fun k => k ≤ l.length) (fun k => l.length - k) 0 (by simp) ?_ ?_
        · refine Le.mk [(0, some 0), (16, some 16)] [0, 16] ⟨rfl, rfl, rfl⟩ ?_ ?_ ?_ <;> simp [go_sem, rrF, atP_zero, pulV, bools_pure]
        · intro k hk
          have hb := atP_bound (hold := hold) (l := l) hp k hk
          by_cases hk0 : k = 0
          · subst hk0
            simp (disch := omega) [go_sem, rrF, bools_len]
            refine br_of (fun h => ?_) (fun h => ?_) <;> simp at h
            · simp (disch := omega) [go_sem, bools_len, nth_bools, h, atP_zero, pulV]
              refine callK_data (rnext_spec p l[0] hold hp) [] ?_ (.inl rfl) ?_ fun _ => ?_
              · simp [go_sem, pulV]
              · simp [go_sem, pulV]
              · simp (disch := omega) [go_sem, pulV]
                refine ⟨by kernel_rfl, round_of 1 (by omega) (by omega) ?_⟩
                have e1 : atP hold p l 1 = stepP hold p l[0] := by rw [atP_succ h, atP_zero]
                have e2 : outP hold p l 1 = [(stepP hold p l[0]).1] := by rw [outP_succ h, outP_zero, atP_zero]; rfl
                refine Le.mk [(0, some 0), (16, some 16), (64, some 496)] [0, 16, 496] ⟨rfl, rfl, rfl⟩ ?_ ?_ ?_ <;> simp [go_sem, rrF, bools, e1, e2, pulV]
            · have hl : l = [] := by simpa using h
              subst hl
              simp at e
              simp (disch := omega) [go_sem, atP_zero, pulV, runE, e, runP, bools_nil]
          · have hk1 : ¬ k + 1 = 0 := by omega
            simp (disch := omega) [go_sem, rrF, bools_len, hk0]
            refine br_of (fun h => ?_) (fun h => ?_) <;> simp at h
            · simp (disch := omega) [go_sem, bools_len, nth_bools, h, pulV]
              refine callK_data (rnext_spec (atP hold p l k) l[k] hold hb) [] ?_ (.inl rfl) ?_ fun _ => ?_
              · simp [go_sem, pulV]
              · simp [go_sem, pulV]
              · simp (disch := omega) [go_sem, pulV]
                refine ⟨by kernel_rfl, ⟨by rw [bools_len, outP_len hk], by omega⟩, round_of (k + 1) (by omega) (by omega) ?_⟩
                have e1 : atP hold p l (k + 1) = stepP hold (atP hold p l k) l[k] := by rw [atP_succ h]
                have e2 : outP hold p l (k + 1) = outP hold p l k ++ [(stepP hold (atP hold p l k) l[k]).1] := by rw [outP_succ h]
                refine Le.mk [(0, some 0), (16, some 16), (64, some 64)] [0, 16, 64] ⟨rfl, rfl, rfl⟩ ?_ ?_ ?_ <;> simp [go_sem, rrF, bools_snoc, e1, e2, pulV, bools_pure]
            · have hkl : k = l.length := by omega
              have e1 : atP hold p l k = (runP hold p l).1 := by rw [hkl]; simp [atP]
              have e2 : outP hold p l k = (runP hold p l).2 := by rw [hkl]; simp [outP]
              simp (disch := omega) [go_sem, runE, e, e1, e2, pulV]
              exact ⟨by rw [bools_len, runP_len]; exact hkl, argsLe_self (bools_pure _)⟩

theorem alive_spec : FnD Try.prog 11 [] (.bool true) := by
  refine fnD_of mixed Try.func11 rfl rfl (by simp [Try.ntmps11]) fun hwf E => ?_
  simp (disch := omega) [Try.ntmps11, go_sem]
  have hr := run_spec (false, false, 0) [true, false, true, true, true, false, true, false, false] 2
  have hs := same_spec [false, false, false, true, true, true, true, true, false] [false, false, false, true, true, true, true, true, false]
  rw [show runP 2 (false, false, 0) [true, false, true, true, true, false, true, false, false] = ((false, false, 2), [false, false, false, true, true, true, true, true, false]) by decide +kernel, show askedN (false, false, 0) ([true, false, true, true, true, false, true, false, false] : List Bool).length 2 = 0 by decide +kernel, if_pos rfl, if_pos rfl] at hr
  refine callK_frz hr [32] [(32, ⟨.ro, 4, 1, bools [true, false, true, true, true, false, true, false, false]⟩)] ?_ ?_ ?_ fun _ => ?_
  · simp [go_sem, pulV, bools]
  · simp [go_sem, bools]
  · simp [go_sem, pulV, bools]
  · simp (disch := omega) [go_sem, pulV, bools]
    refine callK_data hs [256] ?_ (.inr (by simp [go_sem])) (by simp [go_sem]) fun _ => ?_
    · simp [go_sem, bools]
    · simp (disch := omega) [go_sem]

end Go.Proofs.Ytnikgmdpnlfbiaa
