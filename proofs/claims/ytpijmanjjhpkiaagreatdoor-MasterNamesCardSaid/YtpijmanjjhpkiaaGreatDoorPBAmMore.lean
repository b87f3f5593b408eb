/- A slice that is nil, or is not. -/
import Derived.Test.YtpijmanjjhpkiaaGreatDoorPBAmSimp
set_option linter.unusedSimpArgs false
set_option linter.unusedVariables false
namespace Go.AM
open Go.RowKit

theorem sl_split {c : Ctx} {e : Nat} {xs : List V} {v : Value} (h : RV c (.sl e xs) v) : (xs = [] ∧ RV c .nl v) ∨ RV c (.sn e xs) v := by
  simp only [RV] at h ⊢
  obtain ⟨a, cap, us, hv, h1, h2, h3, h4, h5, hm⟩ := h
  cases a with
  | none =>
    rcases hm with rfl | ⟨b, off, h, _⟩
    · exact .inl ⟨rfl, cap, by simpa using hv⟩
    · cases h
  | some a => exact .inr ⟨⟨a, _, _, hv⟩, some a, cap, us, hv, h1, h2, h3, h4, h5, hm⟩
theorem inF_sl {gl : Globs} {E : Entry} {a : Act} {w : World} {η : Nat → Value} {x y : V} (h : Rel E (inF [] [x] gl) a w η) (hxy : RV ((inF [] [x] gl).ctx E w η) x (a.tmps.getD 0 undef) → RV ((inF [] [x] gl).ctx E w η) y (a.tmps.getD 0 undef)) : Rel E (inF [] [y] gl) a w η := by
  refine ⟨fun t => ?_, h.laid, h.since, h.fresh, h.tmps, ⟨h.defers.fix, h.defers.marks⟩, ⟨h.held.nb, h.held.at_⟩, h.glob, h.ghost⟩
  have h0 := h.slots t
  cases t with
  | zero => exact hxy h0
  | succ t => exact h0
theorem fnR_split {P : Program} {f : FuncId} {e : Nat} {xs : List V} {obs' : List Obj} {res : V} {gl : Globs} (h1 : xs = [] → FnR P f [] [.nl] obs' res gl) (h2 : FnR P f [] [.sn e xs] obs' res gl) : FnR P f [] [.sl e xs] obs' res gl := by
  refine ⟨h2.1, fun E cargs η q1 q2 q3 q4 q5 q6 hr => ?_⟩
  have h0 := hr.slots 0
  rcases sl_split h0 with ⟨hx, h3⟩ | h3
  · exact (h1 hx).2 E cargs η q1 q2 q3 q4 q5 q6 (inF_sl hr fun _ => h3)
  · exact h2.2 E cargs η q1 q2 q3 q4 q5 q6 (inF_sl hr fun _ => h3)

theorem vsLe_append {hp : Heap} {σ : Nat → Option (Option Nat)} {B : Nat → Prop} : ∀ {xs ys xs' ys' : List V}, vsLe hp σ B xs xs' → vsLe hp σ B ys ys' → vsLe hp σ B (xs ++ ys) (xs' ++ ys')
  | [], ys, xs', ys', h, h2 => by simp only [vsLe] at h; subst h; simpa using h2
  | x :: xs, ys, xs', ys', h, h2 => by
    simp only [vsLe] at h
    obtain ⟨y, r, rfl, h1, h3⟩ := h
    simp only [List.cons_append, vsLe]
    exact ⟨y, r ++ ys', rfl, h1, vsLe_append h3 h2⟩

/-- The label behind two pieces. -/
theorem awz_scope3 {P : Program} {E : Entry} {c0 c1 c2 : Code} {s : St} {Q : Exit → St → Prop} (hm : P.follows .mixedOrders = true) {ι : Type} {l : Nat} (hf : findLabel c0 l = none ∧ findLabel c1 l = none) (F : ι → St) (ok : ι → Prop) (m : ι → Nat)
    (first : aev P E (.seq c0 c1) s (StartK F ok Q)) (pass : ∀ i, ok i → aev P E c2 (F i) (JumpK l F (fun j => ok j ∧ m j < m i) Q)) : AW P E (.scope (.seq c0 (.seq c1 (.seq (.label l) c2)))) s Q := by
  intro a w η hr
  let S : Act → World → Nat → Prop := fun a w n => ∃ i η, ok i ∧ m i = n ∧ Rel E (F i).F a w η
  let μ : Act → World → Nat := fun a w => Classical.epsilon (fun n => S a w n ∧ ∀ k, S a w k → n ≤ k)
  have hμ : ∀ a w, (∃ n, S a w n) → S a w (μ a w) ∧ ∀ k, S a w k → μ a w ≤ k := fun a w h => Classical.epsilon_spec (least _ h)
  have hfl : findLabel (.seq c0 (.seq c1 (.seq (.label l) c2))) l = some (.seq .skip c2) := by simp [findLabel, hf.1, hf.2]
  refine wp_scope_jumps l (fun a w => ∃ n, S a w n) μ hfl (wp_seq (wp_mono (aev_sound hm c0 s _ first a w η hr) ?_)) fun a w hI => wp_seq (wp_skip ?_)
  · rintro e a0 w0 ⟨s0, η0, hq0, hr0⟩
    cases e with
    | normal =>
      refine wp_seq (wp_mono (aev_sound hm c1 s0 _ hq0 a0 w0 η0 hr0) ?_)
      rintro e a' w' ⟨s', η2, hq, hr2⟩
      cases e with
      | normal =>
        obtain ⟨j, hj, hLe⟩ := hq
        obtain ⟨η3, hr3⟩ := hLe E a' w' η2 hr2
        refine wp_seq (wp_label (wp_mono (aev_sound hm c2 (F j) _ (pass j hj) a' w' η3 hr3) ?_))
        rintro e a2 w2 ⟨s2, η4, hq4, hr4⟩
        cases e with
        | goto l' =>
          obtain ⟨rfl, i, ⟨hi, _⟩, hLe⟩ := hq4
          obtain ⟨η5, hr5⟩ := hLe E a2 w2 η4 hr4
          exact ⟨rfl, _, i, η5, hi, rfl, hr5⟩
        | _ => exact ⟨s2, η4, hq4, hr4⟩
      | goto l' => exact hq.elim
      | _ => exact ⟨s', η2, hq, hr2⟩
    | goto l' => exact hq0.elim
    | _ => exact ⟨s0, η0, hq0, hr0⟩
  · obtain ⟨⟨i, ηi, hok, hmi, hri⟩, hmin⟩ := hμ a w hI
    refine wp_mono (aev_sound hm c2 (F i) _ (pass i hok) a w ηi hri) ?_
    rintro e a' w' ⟨s', η2, hq, hr2⟩
    cases e with
    | goto l' =>
      obtain ⟨rfl, j, ⟨hj, hlt⟩, hLe⟩ := hq
      obtain ⟨η3, hr3⟩ := hLe E a' w' η2 hr2
      have hS : S a' w' (m j) := ⟨j, η3, hj, rfl, hr3⟩
      refine ⟨rfl, ⟨_, hS⟩, ?_⟩
      have := (hμ a' w' ⟨_, hS⟩).2 _ hS
      omega
    | _ => exact ⟨s', η2, hq, hr2⟩
end Go.AM
