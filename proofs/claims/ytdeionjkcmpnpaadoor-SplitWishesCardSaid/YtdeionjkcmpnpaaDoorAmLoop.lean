/- Loops: a state is weakened to another one; what holds at a loop's head. -/
import Derived.Test.YtdeionjkcmpnpaaDoorAmWalk
import Derived.ScopeJumps
set_option linter.unusedSimpArgs false
set_option linter.unusedVariables false
namespace Go.AM
open Go.RowKit

/-- The slots of the weaker state, one by one. -/
def slLe (s : St) (σ : Ren) (live : List Nat) : List (Nat × V) → Prop
  | [] => True
  | (t, y) :: r => vLe (look s.hp) (σf σ) (· ∉ live) (s.get t) y ∧ slLe s σ live r
/-- Its objects. -/
def hpLe (s : St) (σ : Ren) (live : List Nat) : List (Nat × Obj) → Prop
  | [] => True
  | (i, o) :: r => obMatch (look s.hp) σ (· ∉ live) i o ∧ hpLe s σ live r

def renOk (n : Nat) (live : List Nat) : Ren → Prop
  | [] => True
  | (i, j) :: r => i < n ∧ (match j with | some j => j ∈ live ∧ ∀ p ∈ r, p.2 ≠ some j | none => True) ∧ (∀ p ∈ r, p.1 ≠ i) ∧ renOk n live r

/-- What was handed in keeps its number. -/
def keepOk (σ : Ren) (hp : List (Nat × Obj)) : Nat → Prop
  | 0 => True
  | n + 1 => look σ n = some (some n) ∧ (look hp n).isSome = true ∧ keepOk σ hp n
theorem keepOk_at {σ : Ren} {hp : List (Nat × Obj)} : ∀ {n : Nat}, keepOk σ hp n → ∀ i, i < n → look σ i = some (some i) ∧ (look hp i).isSome = true
  | 0, _, i, hi => absurd hi (Nat.not_lt_zero i)
  | n + 1, h, i, hi => by
    simp only [keepOk] at h
    by_cases e : i = n
    · subst e; exact ⟨h.1, h.2.1⟩
    · exact keepOk_at h.2.2 i (by omega)

theorem renOk_inj {n : Nat} {live : List Nat} : ∀ {σ : Ren}, renOk n live σ → (∀ i x, look σ i = some x → i < n ∧ (∀ j, x = some j → j ∈ live)) ∧ (∀ i i' j, look σ i = some (some j) → look σ i' = some (some j) → i = i')
  | [], _ => by simp [look]
  | (k, y) :: r, h => by
    simp only [renOk] at h
    obtain ⟨h1, h2, h3, h4⟩ := h
    obtain ⟨g1, g2⟩ := renOk_inj h4
    have mem : ∀ i x, look r i = some x → (i, x) ∈ r := by
      intro i x
      clear h1 h2 h3 h4 g1 g2
      induction r with
      | nil => intro h; simp [look] at h
      | cons p r ih =>
        obtain ⟨a, b⟩ := p
        intro h
        simp only [look] at h
        split at h
        · rename_i hi; cases h; subst hi; simp
        · exact List.mem_cons_of_mem _ (ih h)
    constructor
    · intro i x hx
      simp only [look] at hx
      split at hx
      · rename_i hi; cases hx; subst hi
        refine ⟨h1, fun j hj => ?_⟩
        subst hj; exact h2.1
      · exact g1 i x hx
    · intro i i' j hi hi'
      simp only [look] at hi hi'
      split at hi <;> split at hi'
      · rename_i a b; rw [a, b]
      · rename_i a b; cases hi
        exact absurd rfl (h2.2 _ (mem _ _ hi'))
      · rename_i a b; cases hi'
        exact absurd rfl (h2.2 _ (mem _ _ hi))
      · exact g2 i i' j hi hi'

section
variable {E : Entry} {a : Act} {w : World} {η : Nat → Value} {s s' : St} {σ : Ren} {live : List Nat}

structure LeCtx (s s' : St) (σ : Ren) (live : List Nat) : Prop where
  ren : renOk s'.nx live σ
  hp : ∀ i o, look s'.hp i = some o → obMatch (look s.hp) σ (· ∉ live) i o

theorem LeCtx.at_ (L : LeCtx s s' σ live) {i : Nat} {o : Obj} (ho : look s'.hp i = some o) : (∃ j o', look σ i = some (some j) ∧ look s.hp j = some o' ∧ o'.k = o.k ∧ o'.T = o.T ∧ o'.e = o.e ∧ o.k ≠ .ro ∧ o.xs.length = o'.xs.length) ∨ (look σ i = some none ∧ o.xs = [] ∧ o.k = .arr ∧ 0 < o.e) := by
  have h1 := L.hp i o ho
  unfold obMatch at h1
  cases hσ : look σ i with
  | none => rw [hσ] at h1; exact h1.elim
  | some x =>
    rw [hσ] at h1
    cases x with
    | none => exact .inr ⟨rfl, h1⟩
    | some j =>
      obtain ⟨o', q1, q2, q3, q4, q5, q6⟩ := h1
      exact .inl ⟨j, o', rfl, q1, q2, q3, q4, q5, vsLe_length q6⟩

theorem own_le (L : LeCtx s s' σ live) {b : Nat} (h : Own s'.F.hp (η2 η σ) b) : ∃ i j o o', look σ i = some (some j) ∧ look s'.hp i = some o ∧ look s.hp j = some o' ∧ o'.k = o.k ∧ o.k ≠ .ro ∧ blk (η j) = some b := by
  obtain ⟨i, o, ho, hk, hb⟩ := h
  unfold η2 at hb
  rcases L.at_ ho with ⟨j, o', h1, h2, h3, _⟩ | ⟨h1, _⟩
  · rw [h1] at hb
    exact ⟨i, j, o, o', h1, ho, h2, h3, hk, hb⟩
  · rw [h1] at hb
    simp [blk] at hb

theorem own_of (L : LeCtx s s' σ live) {b : Nat} (h : Own s'.F.hp (η2 η σ) b) : Own s.F.hp η b := by
  obtain ⟨i, j, o, o', h1, h2, h3, h4, h5, h6⟩ := own_le L h
  exact ⟨j, o', h3, by rw [h4]; exact h5, h6⟩

theorem LeCtx.tells (hr : Rel E s.F a w η) (L : LeCtx s s' σ live) : Tells (s.F.ctx E w η) (s'.F.ctx E w (η2 η σ)) (σf σ) (· ∉ live) := by
  refine ⟨hr.laid, rfl, rfl, rfl, fun b hb => ?_, fun id ob b hid hob hb hOb => ?_, fun i j hσ => ?_, fun i hσ => ?_⟩
  · rcases hb with hb | hb
    · exact .inl hb
    · exact .inr (own_of L hb)
  · rcases hOb with hOb | hOb
    · by_cases hk : ob.k = .ro
      · exact (hr.laid.obj id ob hob).ro hk b hb (.inl hOb)
      · have h1 := E.hb b hOb
        rcases hr.fresh b ⟨id, ob, hob, hk, hb⟩ with h2 | h2
        · exact h1.2 h2
        · omega
    · obtain ⟨i, j, o, o', q1, q2, q3, q4, q5, q6⟩ := own_le L hOb
      have hko : o'.k ≠ .ro := by rw [q4]; exact q5
      by_cases hk : ob.k = .ro
      · exact (hr.laid.obj id ob hob).ro hk b hb (.inr ⟨j, o', q3, hko, q6⟩)
      · have := hr.laid.inj id j ob o' b hob q3 hk hko hb q6
        subst this
        exact hid (((renOk_inj L.ren).1 i _ q1).2 _ rfl)
  · have hσ' : look σ i = some (some j) := hσ
    refine ⟨.inl ((renOk_inj L.ren).1 i _ hσ').1, by show η2 η σ i = η j; unfold η2; rw [hσ'], fun o ho => ?_⟩
    rcases L.at_ ho with ⟨j', o', h1, h2, h3, h4, h5, h6, h7⟩ | ⟨h1, _⟩
    · rw [hσ'] at h1; cases h1
      exact ⟨o', h2, h7, h5.symm, by rw [h3]⟩
    · rw [hσ'] at h1; cases h1
  · have hσ' : look σ i = some none := hσ
    refine ⟨.inl ((renOk_inj L.ren).1 i _ hσ').1, by show η2 η σ i = _; unfold η2; rw [hσ'], fun o ho => ?_⟩
    rcases L.at_ ho with ⟨j', o', h1, _⟩ | ⟨_, _, h3, _⟩
    · rw [hσ'] at h1; cases h1
    · rw [h3]; simp

theorem le_sound (hr : Rel E s.F a w η) (L : LeCtx s s' σ live) (hN : s'.N = s.N) (hnb : s'.nb = s.nb) (hgl : s'.gl = s.gl) (hko : keepOk σ s'.hp s'.nb) (hsl : ∀ t, vLe (look s.hp) (σf σ) (· ∉ live) (s.get t) (s'.get t)) : Rel E s'.F a w (η2 η σ) := by
  have T := L.tells hr
  refine ⟨fun t => vLe_sound T _ _ _ (hsl t) (hr.slots t), laid_ren T (fun i o ho => L.hp i o ho) (renOk_inj L.ren).2 (fun i => rfl) (fun i o b ho hk hb => .inr ⟨i, o, ho, hk, hb⟩), hr.since, fun b hb => hr.fresh b (own_of L hb), by rw [show s'.F.N = s'.N from rfl, hN]; exact hr.tmps, hr.defers, ⟨hr.held.nb.trans hnb.symm, fun i hi => ?_⟩, fun g p hp => T.plain _ _ _ ⟨rfl, by simp [V.pure]⟩ (hr.glob g p (by rw [show s.F.gl = look s.gl from rfl, ← hgl]; exact hp)), fun p hp => RV_keep T.keepD _ _ (hr.ghost p hp)⟩
  obtain ⟨k1, k2⟩ := keepOk_at hko i hi
  obtain ⟨o, ho⟩ := Option.isSome_iff_exists.1 k2
  rcases L.at_ ho with ⟨j, o', q0, q1, q2, q3, q4, q5, hl⟩ | ⟨h1, _⟩
  · rw [k1] at q0; cases q0
    obtain ⟨_, o0, o1, g1, g2, g3, g4, g7, g8, g5, g6⟩ := hr.held.at_ i (by rw [show s.F.nb = s.nb from rfl, ← hnb]; exact hi)
    have g2' : look s.hp i = some o1 := g2
    rw [q1] at g2'; cases g2'
    have he : η2 η σ i = η i := by simp [η2, k1]
    refine ⟨.inl ((renOk_inj L.ren).1 i _ k1).1, o0, o, g1, ho, q5, q4.symm.trans g4, by rw [← q2]; exact g7, fun h => by rw [he]; exact g8 h, by rw [hl]; exact g5, fun e => by rw [he]; exact g6 (by rw [← hl]; exact e)⟩
  · rw [k1] at h1; cases h1

theorem slLe_look : ∀ {l : List (Nat × V)}, slLe s σ live l → ∀ t, vLe (look s.hp) (σf σ) (· ∉ live) (s.get t) ((look l t).getD .bot)
  | [], _, t => by simp only [look, Option.getD_none]; cases s.get t <;> simp [vLe]
  | (k, y) :: r, h, t => by
    simp only [slLe] at h
    simp only [look]
    split
    · rename_i ht; subst ht; exact h.1
    · exact slLe_look h.2 t

theorem hpLe_look : ∀ {l : List (Nat × Obj)}, hpLe s σ live l → ∀ i o, look l i = some o → obMatch (look s.hp) σ (· ∉ live) i o
  | [], _, i, o, h => by simp [look] at h
  | (k, y) :: r, h, i, o, ho => by
    simp only [hpLe] at h
    simp only [look] at ho
    split at ho
    · rename_i hi; cases ho; subst hi; exact h.1
    · exact hpLe_look h.2 i o ho

/-- A state is weakened. σ says what the new numbers stand for (none: a row that is still to be made), live: the old numbers that stay. -/
theorem Le.mk (σ : Ren) (live : List Nat) (hN : s'.N = s.N ∧ s'.nb = s.nb ∧ s'.gl = s.gl) (hren : renOk s'.nx live σ) (hhp : hpLe s σ live s'.hp) (hsl : slLe s σ live s'.sl ∧ keepOk σ s'.hp s'.nb) : Le s s' := by
  intro E a w η hr
  exact ⟨η2 η σ, le_sound hr ⟨hren, hpLe_look hhp⟩ hN.1 hN.2.1 hN.2.2 hsl.2 (slLe_look hsl.1)⟩

theorem Le.refl (s : St) : Le s s := fun _ _ _ η hr => ⟨η, hr⟩
end

/-! ## loops -/

/-- What a round ends in. -/
def RoundK {ι : Type} (F : ι → St) (ok : ι → Prop) (m : ι → Nat) (i : ι) (Q : Exit → St → Prop) (e : Exit) (s : St) : Prop :=
  match e with
  | .normal => ∃ j, ok j ∧ m j < m i ∧ Le s (F j)
  | e => Q e s

theorem least (p : Nat → Prop) (h : ∃ n, p n) : ∃ n, p n ∧ ∀ k, p k → n ≤ k := by
  obtain ⟨n, hn⟩ := h
  induction n using Nat.strongRecOn with
  | _ n ih =>
    by_cases h : ∃ k, k < n ∧ p k
    · obtain ⟨k, hk, hp⟩ := h
      exact ih k hk hp
    · exact ⟨n, hn, fun k hk => Nat.le_of_not_lt fun hl => h ⟨k, hl, hk⟩⟩

theorem aw_loop {P : Program} {E : Entry} {c : Code} {s : St} {Q : Exit → St → Prop} (hm : P.follows .mixedOrders = true) {ι : Type} (F : ι → St) (ok : ι → Prop) (m : ι → Nat) (i0 : ι) (h0 : ok i0) (hle : Le s (F i0))
    (hstep : ∀ i, ok i → aev P E c (F i) (RoundK F ok m i Q)) : AW P E (.loop c) s Q := by
  intro a w η hr
  obtain ⟨η', hr'⟩ := hle E a w η hr
  let S : Act → World → Nat → Prop := fun a w n => ∃ i η, ok i ∧ m i = n ∧ Rel E (F i).F a w η
  let μ : Act → World → Nat := fun a w => Classical.epsilon (fun n => S a w n ∧ ∀ k, S a w k → n ≤ k)
  have hμ : ∀ a w, (∃ n, S a w n) → S a w (μ a w) ∧ ∀ k, S a w k → μ a w ≤ k := fun a w h => Classical.epsilon_spec (least _ h)
  refine wp_loop (fun a w => ∃ n, S a w n) μ ⟨_, i0, η', h0, rfl, hr'⟩ fun a w hI => ?_
  obtain ⟨⟨i, ηi, hok, hmi, hri⟩, hmin⟩ := hμ a w hI
  refine wp_mono (aev_sound hm c (F i) _ (hstep i hok) a w ηi hri) ?_
  rintro e a' w' ⟨s', η2, hq, hr2⟩
  cases e with
  | normal =>
    obtain ⟨j, hj, hlt, hLe⟩ := hq
    obtain ⟨η3, hr3⟩ := hLe E a' w' η2 hr2
    have hS : S a' w' (m j) := ⟨j, η3, hj, rfl, hr3⟩
    refine ⟨⟨_, hS⟩, ?_⟩
    have := (hμ a' w' ⟨_, hS⟩).2 _ hS
    omega
  | _ => exact ⟨s', η2, hq, hr2⟩

/-! ## a scope in which the run jumps back -/
def JumpK {ι : Type} (l : Nat) (F : ι → St) (ok : ι → Prop) (Q : Exit → St → Prop) (e : Exit) (s : St) : Prop :=
  match e with
  | .goto l' => l' = l ∧ ∃ j, ok j ∧ Le s (F j)
  | e => Q e s
/-- Ahead of the label. -/
def StartK {ι : Type} (F : ι → St) (ok : ι → Prop) (Q : Exit → St → Prop) (e : Exit) (s : St) : Prop :=
  match e with
  | .normal => ∃ j, ok j ∧ Le s (F j)
  | .goto _ => False
  | e => Q e s
theorem aw_scope {P : Program} {E : Entry} {c1 c2 : Code} {s : St} {Q : Exit → St → Prop} (hm : P.follows .mixedOrders = true) {ι : Type} {l : Nat} (hf : findLabel c1 l = none) (F : ι → St) (ok : ι → Prop) (m : ι → Nat)
    (first : aev P E c1 s (StartK F ok Q)) (pass : ∀ i, ok i → aev P E c2 (F i) (JumpK l F (fun j => ok j ∧ m j < m i) Q)) : AW P E (.scope (.seq c1 (.seq (.label l) c2))) s Q := by
  intro a w η hr
  let S : Act → World → Nat → Prop := fun a w n => ∃ i η, ok i ∧ m i = n ∧ Rel E (F i).F a w η
  let μ : Act → World → Nat := fun a w => Classical.epsilon (fun n => S a w n ∧ ∀ k, S a w k → n ≤ k)
  have hμ : ∀ a w, (∃ n, S a w n) → S a w (μ a w) ∧ ∀ k, S a w k → μ a w ≤ k := fun a w h => Classical.epsilon_spec (least _ h)
  have hfl : findLabel (.seq c1 (.seq (.label l) c2)) l = some (.seq .skip c2) := by simp [findLabel, hf]
  refine wp_scope_jumps l (fun a w => ∃ n, S a w n) μ hfl (wp_seq (wp_mono (aev_sound hm c1 s _ first a w η hr) ?_)) fun a w hI => wp_seq (wp_skip ?_)
  · rintro e a' w' ⟨s', η2, hq, hr2⟩
    cases e with
    | normal =>
      obtain ⟨j, hj, hLe⟩ := hq
      obtain ⟨η3, hr3⟩ := hLe E a' w' η2 hr2
      refine wp_seq (wp_label (wp_mono (aev_sound hm c2 (F j) _ (pass j hj) a' w' η3 hr3) ?_))
      rintro e a2 w2 ⟨s2, η4, hq4, hr4⟩
      cases e with
      | goto l' =>
        obtain ⟨rfl, i, ⟨hi, _⟩, hLe⟩ := hq4
        obtain ⟨η5, hr5⟩ := hLe E a2 w2 η4 hr4
        exact ⟨rfl, _, i, η5, hi, rfl, hr5⟩
      | _ => exact ⟨s2, η4, hq4, hr4⟩
    | goto l' => exact hq.elim
    | _ => exact ⟨s', η2, hq, hr2⟩
  · obtain ⟨⟨i, ηi, hok, hmi, hri⟩, hmin⟩ := hμ a w hI
    refine wp_mono (aev_sound hm c2 (F i) _ (pass i hok) a w ηi hri) ?_
    rintro e a' w' ⟨s', η2, hq, hr2⟩
    cases e with
    | goto l' =>
      obtain ⟨rfl, j, ⟨hj, hlt⟩, hLe⟩ := hq
      obtain ⟨η3, hr3⟩ := hLe E a' w' η2 hr2
      have hS : S a' w' (m j) := ⟨j, η3, hj, rfl, hr3⟩
      refine ⟨rfl, ⟨_, hS⟩, ?_⟩
      have := (hμ a' w' ⟨_, hS⟩).2 _ hS
      omega
    | _ => exact ⟨s', η2, hq, hr2⟩
end Go.AM
