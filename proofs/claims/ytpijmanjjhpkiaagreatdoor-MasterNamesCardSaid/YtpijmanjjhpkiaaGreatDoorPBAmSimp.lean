/- The abstract machine: loops, and all as simp lemmas. -/
import Derived.Test.YtpijmanjjhpkiaaGreatDoorPBAmD
import Derived.ScopeJumps
/- Loops: a state is weakened to another one; what holds at a loop's head. -/
set_option linter.unusedSimpArgs false
set_option linter.unusedVariables false
namespace Go.AM
open Go.RowKit

/-- The slots of the weaker state, one by one. -/
def slLe (s : St) (σ : Ren) (live : List Nat) : List (Nat × V) → Prop
  | [] => True
  | (t, y) :: r => vLe (look s.hp) (σf σ) (· ∉ live) (s.get t) y ∧ slLe s σ live r
/-- Its objects. -/
def hpLe (s : St) (σ : Ren) (live : List Nat) : List (Nat × Obj) → Prop
  | [] => True
  | (i, o) :: r => obMatch (look s.hp) σ (· ∉ live) i o ∧ hpLe s σ live r

def renOk (n : Nat) (live : List Nat) : Ren → Prop
  | [] => True
  | (i, j) :: r => i < n ∧ (match j with | some j => j ∈ live ∧ ∀ p ∈ r, p.2 ≠ some j | none => True) ∧ (∀ p ∈ r, p.1 ≠ i) ∧ renOk n live r

/-- What was handed in keeps its number. -/
def keepOk (σ : Ren) (hp : List (Nat × Obj)) : Nat → Prop
  | 0 => True
  | n + 1 => look σ n = some (some n) ∧ (look hp n).isSome = true ∧ keepOk σ hp n
theorem keepOk_at {σ : Ren} {hp : List (Nat × Obj)} : ∀ {n : Nat}, keepOk σ hp n → ∀ i, i < n → look σ i = some (some i) ∧ (look hp i).isSome = true
  | 0, _, i, hi => absurd hi (Nat.not_lt_zero i)
  | n + 1, h, i, hi => by
    simp only [keepOk] at h
    by_cases e : i = n
    · subst e; exact ⟨h.1, h.2.1⟩
    · exact keepOk_at h.2.2 i (by omega)

theorem renOk_inj {n : Nat} {live : List Nat} : ∀ {σ : Ren}, renOk n live σ → (∀ i x, look σ i = some x → i < n ∧ (∀ j, x = some j → j ∈ live)) ∧ (∀ i i' j, look σ i = some (some j) → look σ i' = some (some j) → i = i')
  | [], _ => by simp [look]
  | (k, y) :: r, h => by
    simp only [renOk] at h
    obtain ⟨h1, h2, h3, h4⟩ := h
    obtain ⟨g1, g2⟩ := renOk_inj h4
    have mem : ∀ i x, look r i = some x → (i, x) ∈ r := by
      intro i x
      clear h1 h2 h3 h4 g1 g2
      induction r with
      | nil => intro h; simp [look] at h
      | cons p r ih =>
        obtain ⟨a, b⟩ := p
        intro h
        simp only [look] at h
        split at h
        · rename_i hi; cases h; subst hi; simp
        · exact List.mem_cons_of_mem _ (ih h)
    constructor
    · intro i x hx
      simp only [look] at hx
      split at hx
      · rename_i hi; cases hx; subst hi
        refine ⟨h1, fun j hj => ?_⟩
        subst hj; exact h2.1
      · exact g1 i x hx
    · intro i i' j hi hi'
      simp only [look] at hi hi'
      split at hi <;> split at hi'
      · rename_i a b; rw [a, b]
      · rename_i a b; cases hi
        exact absurd rfl (h2.2 _ (mem _ _ hi'))
      · rename_i a b; cases hi'
        exact absurd rfl (h2.2 _ (mem _ _ hi))
      · exact g2 i i' j hi hi'

section
variable {E : Entry} {a : Act} {w : World} {η : Nat → Value} {s s' : St} {σ : Ren} {live : List Nat}

structure LeCtx (s s' : St) (σ : Ren) (live : List Nat) : Prop where
  ren : renOk s'.nx live σ
  hp : ∀ i o, look s'.hp i = some o → obMatch (look s.hp) σ (· ∉ live) i o

theorem LeCtx.at_ (L : LeCtx s s' σ live) {i : Nat} {o : Obj} (ho : look s'.hp i = some o) : (∃ j o', look σ i = some (some j) ∧ look s.hp j = some o' ∧ o'.k = o.k ∧ o'.T = o.T ∧ o'.e = o.e ∧ o.k ≠ .ro ∧ o.xs.length = o'.xs.length) ∨ (look σ i = some none ∧ o.xs = [] ∧ o.k = .arr ∧ 0 < o.e) := by
  have h1 := L.hp i o ho
  unfold obMatch at h1
  cases hσ : look σ i with
  | none => rw [hσ] at h1; exact h1.elim
  | some x =>
    rw [hσ] at h1
    cases x with
    | none => exact .inr ⟨rfl, h1⟩
    | some j =>
      obtain ⟨o', q1, q2, q3, q4, q5, q6⟩ := h1
      exact .inl ⟨j, o', rfl, q1, q2, q3, q4, q5, vsLe_length q6⟩

theorem own_le (L : LeCtx s s' σ live) {b : Nat} (h : Own s'.F.hp (η2 η σ) b) : ∃ i j o o', look σ i = some (some j) ∧ look s'.hp i = some o ∧ look s.hp j = some o' ∧ o'.k = o.k ∧ o.k ≠ .ro ∧ blk (η j) = some b := by
  obtain ⟨i, o, ho, hk, hb⟩ := h
  unfold η2 at hb
  rcases L.at_ ho with ⟨j, o', h1, h2, h3, _⟩ | ⟨h1, _⟩
  · rw [h1] at hb
    exact ⟨i, j, o, o', h1, ho, h2, h3, hk, hb⟩
  · rw [h1] at hb
    simp [blk] at hb

theorem own_of (L : LeCtx s s' σ live) {b : Nat} (h : Own s'.F.hp (η2 η σ) b) : Own s.F.hp η b := by
  obtain ⟨i, j, o, o', h1, h2, h3, h4, h5, h6⟩ := own_le L h
  exact ⟨j, o', h3, by rw [h4]; exact h5, h6⟩

theorem LeCtx.tells (hr : Rel E s.F a w η) (L : LeCtx s s' σ live) : Tells (s.F.ctx E w η) (s'.F.ctx E w (η2 η σ)) (σf σ) (· ∉ live) := by
  refine ⟨hr.laid, rfl, rfl, rfl, fun b hb => ?_, fun id ob b hid hob hb hOb => ?_, fun i j hσ => ?_, fun i hσ => ?_⟩
  · rcases hb with hb | hb
    · exact .inl hb
    · exact .inr (own_of L hb)
  · rcases hOb with hOb | hOb
    · by_cases hk : ob.k = .ro
      · exact (hr.laid.obj id ob hob).ro hk b hb (.inl hOb)
      · have h1 := E.hb b hOb
        rcases hr.fresh b ⟨id, ob, hob, hk, hb⟩ with h2 | h2
        · exact h1.2 h2
        · omega
    · obtain ⟨i, j, o, o', q1, q2, q3, q4, q5, q6⟩ := own_le L hOb
      have hko : o'.k ≠ .ro := by rw [q4]; exact q5
      by_cases hk : ob.k = .ro
      · exact (hr.laid.obj id ob hob).ro hk b hb (.inr ⟨j, o', q3, hko, q6⟩)
      · have := hr.laid.inj id j ob o' b hob q3 hk hko hb q6
        subst this
        exact hid (((renOk_inj L.ren).1 i _ q1).2 _ rfl)
  · have hσ' : look σ i = some (some j) := hσ
    refine ⟨.inl ((renOk_inj L.ren).1 i _ hσ').1, by show η2 η σ i = η j; unfold η2; rw [hσ'], fun o ho => ?_⟩
    rcases L.at_ ho with ⟨j', o', h1, h2, h3, h4, h5, h6, h7⟩ | ⟨h1, _⟩
    · rw [hσ'] at h1; cases h1
      exact ⟨o', h2, h7, h5.symm, by rw [h3]⟩
    · rw [hσ'] at h1; cases h1
  · have hσ' : look σ i = some none := hσ
    refine ⟨.inl ((renOk_inj L.ren).1 i _ hσ').1, by show η2 η σ i = _; unfold η2; rw [hσ'], fun o ho => ?_⟩
    rcases L.at_ ho with ⟨j', o', h1, _⟩ | ⟨_, _, h3, _⟩
    · rw [hσ'] at h1; cases h1
    · rw [h3]; simp

theorem le_sound (hr : Rel E s.F a w η) (L : LeCtx s s' σ live) (hN : s'.N = s.N) (hnb : s'.nb = s.nb) (hgl : s'.gl = s.gl) (hko : keepOk σ s'.hp s'.nb) (hsl : ∀ t, vLe (look s.hp) (σf σ) (· ∉ live) (s.get t) (s'.get t)) : Rel E s'.F a w (η2 η σ) := by
  have T := L.tells hr
  refine ⟨fun t => vLe_sound T _ _ _ (hsl t) (hr.slots t), laid_ren T (fun i o ho => L.hp i o ho) (renOk_inj L.ren).2 (fun i => rfl) (fun i o b ho hk hb => .inr ⟨i, o, ho, hk, hb⟩), hr.since, fun b hb => hr.fresh b (own_of L hb), by rw [show s'.F.N = s'.N from rfl, hN]; exact hr.tmps, hr.defers, ⟨hr.held.nb.trans hnb.symm, fun i hi => ?_⟩, fun g p hp => T.plain _ _ _ ⟨rfl, by simp [V.pure]⟩ (hr.glob g p (by rw [show s.F.gl = look s.gl from rfl, ← hgl]; exact hp)), fun p hp => RV_keep T.keepD _ _ (hr.ghost p hp)⟩
  obtain ⟨k1, k2⟩ := keepOk_at hko i hi
  obtain ⟨o, ho⟩ := Option.isSome_iff_exists.1 k2
  rcases L.at_ ho with ⟨j, o', q0, q1, q2, q3, q4, q5, hl⟩ | ⟨h1, _⟩
  · rw [k1] at q0; cases q0
    obtain ⟨_, o0, o1, g1, g2, g3, g4, g7, g8, g5, g6⟩ := hr.held.at_ i (by rw [show s.F.nb = s.nb from rfl, ← hnb]; exact hi)
    have g2' : look s.hp i = some o1 := g2
    rw [q1] at g2'; cases g2'
    have he : η2 η σ i = η i := by simp [η2, k1]
    refine ⟨.inl ((renOk_inj L.ren).1 i _ k1).1, o0, o, g1, ho, q5, q4.symm.trans g4, by rw [← q2]; exact g7, fun h => by rw [he]; exact g8 h, by rw [hl]; exact g5, fun e => by rw [he]; exact g6 (by rw [← hl]; exact e)⟩
  · rw [k1] at h1; cases h1

theorem slLe_look : ∀ {l : List (Nat × V)}, slLe s σ live l → ∀ t, vLe (look s.hp) (σf σ) (· ∉ live) (s.get t) ((look l t).getD .bot)
  | [], _, t => by simp only [look, Option.getD_none]; cases s.get t <;> simp [vLe]
  | (k, y) :: r, h, t => by
    simp only [slLe] at h
    simp only [look]
    split
    · rename_i ht; subst ht; exact h.1
    · exact slLe_look h.2 t

theorem hpLe_look : ∀ {l : List (Nat × Obj)}, hpLe s σ live l → ∀ i o, look l i = some o → obMatch (look s.hp) σ (· ∉ live) i o
  | [], _, i, o, h => by simp [look] at h
  | (k, y) :: r, h, i, o, ho => by
    simp only [hpLe] at h
    simp only [look] at ho
    split at ho
    · rename_i hi; cases ho; subst hi; exact h.1
    · exact hpLe_look h.2 i o ho

/-- A state is weakened. σ says what the new numbers stand for (none: a row that is still to be made), live: the old numbers that stay. -/
theorem Le.mk (σ : Ren) (live : List Nat) (hN : s'.N = s.N ∧ s'.nb = s.nb ∧ s'.gl = s.gl) (hren : renOk s'.nx live σ) (hhp : hpLe s σ live s'.hp) (hsl : slLe s σ live s'.sl ∧ keepOk σ s'.hp s'.nb) : Le s s' := by
  intro E a w η hr
  exact ⟨η2 η σ, le_sound hr ⟨hren, hpLe_look hhp⟩ hN.1 hN.2.1 hN.2.2 hsl.2 (slLe_look hsl.1)⟩

end

/-! ## loops -/

/-- What a round ends in. -/
def RoundK {ι : Type} (F : ι → St) (ok : ι → Prop) (m : ι → Nat) (i : ι) (Q : Exit → St → Prop) (e : Exit) (s : St) : Prop :=
  match e with
  | .normal => ∃ j, ok j ∧ m j < m i ∧ Le s (F j)
  | e => Q e s

theorem least (p : Nat → Prop) (h : ∃ n, p n) : ∃ n, p n ∧ ∀ k, p k → n ≤ k := by
  obtain ⟨n, hn⟩ := h
  induction n using Nat.strongRecOn with
  | _ n ih =>
    by_cases h : ∃ k, k < n ∧ p k
    · obtain ⟨k, hk, hp⟩ := h
      exact ih k hk hp
    · exact ⟨n, hn, fun k hk => Nat.le_of_not_lt fun hl => h ⟨k, hl, hk⟩⟩

theorem aw_loop {P : Program} {E : Entry} {c : Code} {s : St} {Q : Exit → St → Prop} (hm : P.follows .mixedOrders = true) {ι : Type} (F : ι → St) (ok : ι → Prop) (m : ι → Nat) (i0 : ι) (h0 : ok i0) (hle : Le s (F i0))
    (hstep : ∀ i, ok i → aev P E c (F i) (RoundK F ok m i Q)) : AW P E (.loop c) s Q := by
  intro a w η hr
  obtain ⟨η', hr'⟩ := hle E a w η hr
  let S : Act → World → Nat → Prop := fun a w n => ∃ i η, ok i ∧ m i = n ∧ Rel E (F i).F a w η
  let μ : Act → World → Nat := fun a w => Classical.epsilon (fun n => S a w n ∧ ∀ k, S a w k → n ≤ k)
  have hμ : ∀ a w, (∃ n, S a w n) → S a w (μ a w) ∧ ∀ k, S a w k → μ a w ≤ k := fun a w h => Classical.epsilon_spec (least _ h)
  refine wp_loop (fun a w => ∃ n, S a w n) μ ⟨_, i0, η', h0, rfl, hr'⟩ fun a w hI => ?_
  obtain ⟨⟨i, ηi, hok, hmi, hri⟩, hmin⟩ := hμ a w hI
  refine wp_mono (aev_sound hm c (F i) _ (hstep i hok) a w ηi hri) ?_
  rintro e a' w' ⟨s', η2, hq, hr2⟩
  cases e with
  | normal =>
    obtain ⟨j, hj, hlt, hLe⟩ := hq
    obtain ⟨η3, hr3⟩ := hLe E a' w' η2 hr2
    have hS : S a' w' (m j) := ⟨j, η3, hj, rfl, hr3⟩
    refine ⟨⟨_, hS⟩, ?_⟩
    have := (hμ a' w' ⟨_, hS⟩).2 _ hS
    omega
  | _ => exact ⟨s', η2, hq, hr2⟩

/-! ## a scope in which the run jumps back -/
def JumpK {ι : Type} (l : Nat) (F : ι → St) (ok : ι → Prop) (Q : Exit → St → Prop) (e : Exit) (s : St) : Prop :=
  match e with
  | .goto l' => l' = l ∧ ∃ j, ok j ∧ Le s (F j)
  | e => Q e s
/-- Ahead of the label. -/
def StartK {ι : Type} (F : ι → St) (ok : ι → Prop) (Q : Exit → St → Prop) (e : Exit) (s : St) : Prop :=
  match e with
  | .normal => ∃ j, ok j ∧ Le s (F j)
  | .goto _ => False
  | e => Q e s
end Go.AM

/- How the walk is simplified: what simp may look into, and the rules. -/
set_option linter.unusedSimpArgs false
set_option linter.unusedVariables false
namespace Go.AM
open Go.RowKit

section
variable {P : Program} {E : Entry}

/-! every continuation is a word with its arguments: simp finds nothing to do in it before its turn has come -/
def nextW (P : Program) (ops : Array Oper) (i : Nat) (o : Oper) (l : List Oper) (s : St) (log : List LogE) (K : St → List LogE → Prop) (e : Eff) : Prop :=
  walk P ops (i + 1) l (s.app o.dst e) (⟨(e.rd, e.ids), e.upd, ldE s o e⟩ :: log) K
def endK (P : Program) (draw : Bool) (ops : Array Oper) (Q : Exit → St → Prop) (s : St) (log : List LogE) : Prop :=
  (draw = true → DrawG P ops log) ∧ exOk s.ex (s.nx + 16 * ops.size) ∧ Q .normal (s.next ops.size)
def seqK (P : Program) (E : Entry) (b : Code) (Q : Exit → St → Prop) (e : Exit) (s : St) : Prop :=
  match e with
  | .normal => aev P E b s Q
  | e => Q e s
def br (P : Program) (E : Entry) (a b : Code) (s : St) (Q : Exit → St → Prop) (t : Bool) : Prop := (t = true → aev P E a s Q) ∧ (t = false → aev P E b s Q)
def brV (P : Program) (E : Entry) (a b : Code) (s : St) (Q : Exit → St → Prop) (v : V) : Prop :=
  match v with
  | .bool t => br P E a b s Q t
  | _ => False

theorem walk_nil {ops : Array Oper} {i : Nat} {s : St} {log : List LogE} {K : St → List LogE → Prop} : walk P ops i [] s log K = K s log := rfl
theorem walk_cons {ops : Array Oper} {i : Nat} {o : Oper} {l : List Oper} {s : St} {log : List LogE} {K : St → List LogE → Prop} :
    walk P ops i (o :: l) s log K = gstep P ops i o s (nextW P ops i o l s log K) := rfl
theorem aev_skip {s : St} {Q : Exit → St → Prop} : aev P E .skip s Q = Q .normal s := rfl
theorem aev_label {l : Nat} {s : St} {Q : Exit → St → Prop} : aev P E (.label l) s Q = Q .normal s := rfl
theorem aev_ret {s : St} {Q : Exit → St → Prop} : aev P E .ret s Q = Q .ret s := rfl
theorem aev_exit {id : Nat} {s : St} {Q : Exit → St → Prop} : aev P E (.exit id) s Q = Q (.exit id) s := rfl
theorem aev_region {id : Nat} {ops : Array Oper} {draw : Bool} {s : St} {Q : Exit → St → Prop} : aev P E (.region id ops draw) s Q = walk P ops 0 ops.toList s [] (endK P draw ops Q) := rfl
theorem aev_seq {a b : Code} {s : St} {Q : Exit → St → Prop} : aev P E (.seq a b) s Q = aev P E a s (seqK P E b Q) := rfl
theorem aev_cond {c : Operand} {a b : Code} {s : St} {Q : Exit → St → Prop} : aev P E (.cond c a b) s Q = brV P E a b s Q (s.ev c) := rfl
theorem aev_block {id : Nat} {c : Code} {s : St} {Q : Exit → St → Prop} : aev P E (.block id c) s Q = aev P E c s (blockK id Q) := rfl
def scopeB (P : Program) (E : Entry) (c : Code) (s : St) (Q : Exit → St → Prop) : Bool → Prop
  | true => AW P E (.scope c) s Q
  | false => aev P E c s (scopeK Q)
theorem aev_scope {c : Code} {s : St} {Q : Exit → St → Prop} : aev P E (.scope c) s Q = scopeB P E c s Q (hasGoto c) := by
  show (match hasGoto c with | true => AW P E (.scope c) s Q | false => aev P E c s (scopeK Q)) = _
  cases hasGoto c <;> rfl
theorem scopeB_t {c : Code} {s : St} {Q : Exit → St → Prop} : scopeB P E c s Q true = AW P E (.scope c) s Q := rfl
theorem scopeB_f {c : Code} {s : St} {Q : Exit → St → Prop} : scopeB P E c s Q false = aev P E c s (scopeK Q) := rfl
@[congr] theorem scopeB_congr {c : Code} {s : St} {Q : Exit → St → Prop} {b b' : Bool} (h : b = b') : scopeB P E c s Q b = scopeB P E c s Q b' := by rw [h]
theorem aev_goto {l : Nat} {s : St} {Q : Exit → St → Prop} : aev P E (.goto l) s Q = Q (.goto l) s := rfl
theorem jumpK_normal {ι : Type} {l : Nat} {F : ι → St} {ok : ι → Prop} {Q : Exit → St → Prop} {s : St} : JumpK l F ok Q .normal s = Q .normal s := rfl
theorem jumpK_exit {ι : Type} {l : Nat} {F : ι → St} {ok : ι → Prop} {Q : Exit → St → Prop} {s : St} {id : Nat} : JumpK l F ok Q (.exit id) s = Q (.exit id) s := rfl
theorem jumpK_ret {ι : Type} {l : Nat} {F : ι → St} {ok : ι → Prop} {Q : Exit → St → Prop} {s : St} : JumpK l F ok Q .ret s = Q .ret s := rfl
theorem jump_of {ι : Type} {l : Nat} {F : ι → St} {ok : ι → Prop} {Q : Exit → St → Prop} {s : St} (j : ι) (h1 : ok j) (h2 : Le s (F j)) : JumpK l F ok Q (.goto l) s := ⟨rfl, j, h1, h2⟩
theorem startK_exit {ι : Type} {F : ι → St} {ok : ι → Prop} {Q : Exit → St → Prop} {s : St} {id : Nat} : StartK F ok Q (.exit id) s = Q (.exit id) s := rfl
theorem startK_ret {ι : Type} {F : ι → St} {ok : ι → Prop} {Q : Exit → St → Prop} {s : St} : StartK F ok Q .ret s = Q .ret s := rfl
theorem start_of {ι : Type} {F : ι → St} {ok : ι → Prop} {Q : Exit → St → Prop} {s : St} (j : ι) (h1 : ok j) (h2 : Le s (F j)) : StartK F ok Q .normal s := ⟨j, h1, h2⟩
theorem aev_loop {c : Code} {s : St} {Q : Exit → St → Prop} : aev P E (.loop c) s Q = AW P E (.loop c) s Q := rfl
theorem nextW_app {ops : Array Oper} {i : Nat} {o : Oper} {l : List Oper} {s : St} {log : List LogE} {K : St → List LogE → Prop} {e : Eff} :
    nextW P ops i o l s log K e = walk P ops (i + 1) l (s.app o.dst e) (⟨(e.rd, e.ids), e.upd, ldE s o e⟩ :: log) K := rfl
theorem endK_draw {ops : Array Oper} {Q : Exit → St → Prop} {s : St} {log : List LogE} : endK P true ops Q s log = (DrawG P ops log ∧ exOk s.ex (s.nx + 16 * ops.size) ∧ Q .normal (s.next ops.size)) := by simp [endK]
theorem endK_plain {ops : Array Oper} {Q : Exit → St → Prop} {s : St} {log : List LogE} : endK P false ops Q s log = (exOk s.ex (s.nx + 16 * ops.size) ∧ Q .normal (s.next ops.size)) := by simp [endK]
theorem seqK_normal {b : Code} {Q : Exit → St → Prop} {s : St} : seqK P E b Q .normal s = aev P E b s Q := rfl
theorem seqK_exit {b : Code} {Q : Exit → St → Prop} {s : St} {id : Nat} : seqK P E b Q (.exit id) s = Q (.exit id) s := rfl
theorem seqK_goto {b : Code} {Q : Exit → St → Prop} {s : St} {id : Nat} : seqK P E b Q (.goto id) s = Q (.goto id) s := rfl
theorem seqK_ret {b : Code} {Q : Exit → St → Prop} {s : St} : seqK P E b Q .ret s = Q .ret s := rfl
theorem brV_bool {a b : Code} {s : St} {Q : Exit → St → Prop} {t : Bool} : brV P E a b s Q (.bool t) = br P E a b s Q t := rfl
theorem br_t {a b : Code} {s : St} {Q : Exit → St → Prop} : br P E a b s Q true = aev P E a s Q := by simp [br]
theorem br_f {a b : Code} {s : St} {Q : Exit → St → Prop} : br P E a b s Q false = aev P E b s Q := by simp [br]
theorem gbr_t {fid : Nat} {o : Oper} {s : St} {K : Eff → Prop} : gbr P fid o s K true = ostep P fid o (s.unw true) K := by simp [gbr]
theorem gbr_f {fid : Nat} {o : Oper} {s : St} {K : Eff → Prop} : gbr P fid o s K false = K ⟨.tup [], [], []⟩ := by simp [gbr]
theorem br_of {a b : Code} {s : St} {Q : Exit → St → Prop} {t : Bool} (h1 : t = true → aev P E a s Q) (h2 : t = false → aev P E b s Q) : br P E a b s Q t := ⟨h1, h2⟩
theorem gbr_of {fid : Nat} {o : Oper} {s : St} {K : Eff → Prop} {g : Bool} (h1 : g = true → ostep P fid o (s.unw true) K) (h2 : g = false → K ⟨.tup [], [], []⟩) : gbr P fid o s K g := ⟨h1, h2⟩
theorem done_none {fid nx : Nat} {ex : List Nat} {K : Eff → Prop} : done none fid nx ex K = False := rfl
theorem pdone_none {g : Bool} {K : Eff → Prop} : pdone none g K = (g = false ∧ K ⟨.tup [], [], []⟩) := rfl

/-! the parts of values -/
def scal (P : Program) (T : TypeId) (v : V) (r : Option Bool) : Option V :=
  match r with
  | some false => some v
  | _ => partV P T v 0
theorem scal_f {T : TypeId} {v : V} : scal P T v (some false) = some v := rfl
theorem partV_scal {T : TypeId} {v : V} (h : isRowT P T = some false → partV P T v 0 = some v) : partV P T v 0 = scal P T v (isRowT P T) := by
  unfold scal
  split
  · rename_i h2; exact h h2
  · rfl
theorem partV_int {T : TypeId} {k : IntKind} {n : Int} : partV P T (.int k n) 0 = scal P T (.int k n) (isRowT P T) := partV_scal fun h => by simp [partV, h, V.cl]
theorem partV_bool {T : TypeId} {b : Bool} : partV P T (.bool b) 0 = scal P T (.bool b) (isRowT P T) := partV_scal fun h => by simp [partV, h, V.cl]
theorem partV_str {T : TypeId} {b : ByteArray} : partV P T (.str b) 0 = scal P T (.str b) (isRowT P T) := partV_scal fun h => by simp [partV, h, V.cl]
theorem partV_nilS {T : TypeId}  : partV P T .nilS 0 = scal P T .nilS (isRowT P T) := partV_scal fun h => by simp [partV, h, V.cl]
theorem partV_nilP {T : TypeId}  : partV P T .nilP 0 = scal P T .nilP (isRowT P T) := partV_scal fun h => by simp [partV, h, V.cl]
theorem partV_nilF {T : TypeId}  : partV P T .nilF 0 = scal P T .nilF (isRowT P T) := partV_scal fun h => by simp [partV, h, V.cl]
theorem partV_sl {T : TypeId} {e : TypeId} {xs : List V} : partV P T (.sl e xs) 0 = scal P T (.sl e xs) (isRowT P T) := partV_scal fun h => by simp [partV, h, V.cl]
theorem partV_obj {T : TypeId} {id n : Nat} : partV P T (.obj id n) 0 = scal P T (.obj id n) (isRowT P T) := partV_scal fun h => by simp [partV, h, V.cl]
theorem partV_ptr {T : TypeId} {id n i o : Nat} : partV P T (.ptr id n i o) 0 = scal P T (.ptr id n i o) (isRowT P T) := partV_scal fun h => by simp [partV, h, V.cl]
theorem partV_mp {T : TypeId} {id : Nat} : partV P T (.mp id) 0 = scal P T (.mp id) (isRowT P T) := partV_scal fun h => by simp [partV, h, V.cl]
theorem partV_func {T : TypeId} {f : Fn} {a b : List V} : partV P T (.func f a b) 0 = scal P T (.func f a b) (isRowT P T) := partV_scal fun h => by simp [partV, h, V.cl]
theorem partV_agg {T o : Nat} {cs : List V} : partV P T (.agg cs) o = match isRowT P T with
    | some true => if o = 0 ∧ cs.length = P.cellsOf T then some (.agg cs) else if o + P.cellsOf T ≤ cs.length then some (.agg ((cs.drop o).take (P.cellsOf T))) else none
    | some false => cs[o]?
    | none => none := by
  cases hr : isRowT P T with
  | none => simp [partV, hr]
  | some b => cases b <;> simp [partV, hr, V.cl]

mutual
theorem vLe_self {hp : Heap} {σ : Nat → Option (Option Nat)} {B : Nat → Prop} : ∀ (x : V), x.pure → vLe hp σ B x x
  | .bot, h => by simp [vLe]
  | .bool b, h => by simp [vLe, V.pure]
  | .int k n, h => by simp [vLe, V.pure]
  | .str s, h => by simp [vLe, V.pure]
  | .nilS, h => by simp [vLe, V.pure]
  | .sl e xs, h => by simp [vLe, V.pure]
  | .nl, h => by simp [vLe, V.pure]
  | .sn e xs, h => by simp [vLe, V.pure]
  | .win id n i o k, h => by simp [V.pure] at h
  | .obj id n, h => by simp [V.pure] at h
  | .ptr id n i o, h => by simp [V.pure] at h
  | .mp id, h => by simp [V.pure] at h
  | .tptr e xs i o, h => by simp [vLe, V.pure]
  | .nilP, h => by simp [vLe, V.pure]
  | .func fn f cs, h => by
    simp only [V.pure] at h
    simp only [vLe]
    exact ⟨trivial, vsLe_self f h.1, vsLe_self cs h.2⟩
  | .nilF, h => by simp [vLe, V.pure]
  | .agg cs, h => by
    simp only [V.pure] at h
    simp only [vLe]
    exact vsLe_self cs h
  | .tup vs, h => by
    simp only [V.pure] at h
    simp only [vLe]
    exact vsLe_self vs h
  | .opt g x, h => by simp [V.pure] at h
theorem vsLe_self {hp : Heap} {σ : Nat → Option (Option Nat)} {B : Nat → Prop} : ∀ (xs : List V), pures xs → vsLe hp σ B xs xs
  | [], h => by simp [vsLe]
  | x :: xs, h => by
    simp only [pures] at h
    simp only [vsLe]
    exact ⟨x, xs, rfl, vLe_self x h.1, vsLe_self xs h.2⟩
end

mutual
theorem ren_pure {τ : Nat → Nat} : ∀ (x : V), x.pure → x.ren τ = x
  | .bot, h => by simp [V.pure] at h
  | .bool b, h => rfl
  | .int k n, h => rfl
  | .str s, h => rfl
  | .nilS, h => rfl
  | .sl e xs, h => rfl
  | .nl, h => rfl
  | .sn e xs, h => rfl
  | .win id n i o k, h => by simp [V.pure] at h
  | .obj id n, h => by simp [V.pure] at h
  | .ptr id n i o, h => by simp [V.pure] at h
  | .mp id, h => by simp [V.pure] at h
  | .tptr e xs i o, h => rfl
  | .nilP, h => rfl
  | .func fn f cs, h => by
    simp only [V.pure] at h
    simp only [V.ren, rens_pure f h.1, rens_pure cs h.2]
  | .nilF, h => rfl
  | .agg cs, h => by
    simp only [V.pure] at h
    simp only [V.ren, rens_pure cs h]
  | .tup vs, h => by
    simp only [V.pure] at h
    simp only [V.ren, rens_pure vs h]
  | .opt g x, h => by simp [V.pure] at h
theorem rens_pure {τ : Nat → Nat} : ∀ (xs : List V), pures xs → rens τ xs = xs
  | [], h => rfl
  | x :: xs, h => by
    simp only [pures] at h
    simp only [rens, ren_pure x h.1, rens_pure xs h.2]
end
mutual
theorem noSl_noRef : ∀ (x : V), x.noRef → x.noSl
  | .bot, h => by simp [V.noRef] at h
  | .bool b, h => by simp [V.noSl]
  | .int k n, h => by simp [V.noSl]
  | .str s, h => by simp [V.noSl]
  | .nilS, h => by simp [V.noSl]
  | .sl e xs, h => by simp [V.noRef] at h
  | .nl, h => by simp [V.noSl]
  | .sn e xs, h => by simp [V.noRef] at h
  | .win id n i o k, h => by simp [V.noSl]
  | .obj id n, h => by simp [V.noSl]
  | .ptr id n i o, h => by simp [V.noSl]
  | .mp id, h => by simp [V.noSl]
  | .tptr e xs i o, h => by simp [V.noRef] at h
  | .nilP, h => by simp [V.noSl]
  | .func fn f cs, h => by simp [V.noRef] at h
  | .nilF, h => by simp [V.noSl]
  | .agg cs, h => by
    simp only [V.noRef] at h
    simp only [V.noSl]
    exact noSls_noRefs cs h
  | .tup vs, h => by
    simp only [V.noRef] at h
    simp only [V.noSl]
    exact noSls_noRefs vs h
  | .opt g x, h => by simp [V.noRef] at h
theorem noSls_noRefs : ∀ (xs : List V), noRefs xs → noSls xs
  | [], h => by simp [noSls]
  | x :: xs, h => by
    simp only [noRefs] at h
    simp only [noSls]
    exact ⟨noSl_noRef x h.1, noSls_noRefs xs h.2⟩
end

theorem all2_self {R : V → V → Prop} : ∀ {xs : List V}, (∀ x ∈ xs, R x x) → all2 R xs xs
  | [], _ => by simp only [all2]
  | x :: xs, h => by simp only [all2]; exact ⟨h x (by simp), all2_self fun y hy => h y (by simp [hy])⟩
theorem pures_mem : ∀ {xs : List V}, pures xs → ∀ x ∈ xs, x.pure
  | y :: ys, h, x, hx => by
    simp only [pures] at h
    rcases List.mem_cons.1 hx with rfl | hx
    · exact h.1
    · exact pures_mem h.2 x hx
theorem argLe_self {hp : Heap} {B : Nat → Prop} : ∀ (n : Nat) (x : V), x.pure → argLe hp B V.pure n x x
  | 0, x, h => by simp only [argLe]; exact ⟨trivial, h⟩
  | n + 1, x, h => by
    have ih := fun xs (h : pures xs) => all2_self fun y hy => argLe_self (hp := hp) (B := B) n y (pures_mem h y hy)
    cases x <;> simp only [V.pure] at h <;> simp only [argLe, V.pure]
    all_goals first
      | exact ih _ h
      | exact ⟨trivial, ih _ h.1, ih _ h.2⟩
      | trivial
      | exact ⟨trivial, trivial⟩
theorem argsLe_self {hp : Heap} {B : Nat → Prop} {n : Nat} {xs : List V} (h : pures xs) : all2 (argLe hp B V.pure n) xs xs := all2_self fun y hy => argLe_self n y (pures_mem h y hy)
theorem pures_append : ∀ {xs ys : List V}, pures (xs ++ ys) ↔ pures xs ∧ pures ys
  | [], ys => by simp [pures]
  | x :: xs, ys => by simp [pures, pures_append (xs := xs), and_assoc]
end

theorem beq_want_true (t : Bool) : (t == true) = t := by cases t <;> rfl
theorem beq_want_false (t : Bool) : (t == false) = !t := by cases t <;> rfl
theorem St.next_mk (a : List (Nat × V)) (b : List (Nat × Obj)) (c n N m : Nat) (d : List Nat) (g : Globs) : St.next ⟨a, b, c, d, N, m, g⟩ n = ⟨a, b, c + 16 * n, [], N, m, g⟩ := rfl
theorem unw_self (g : Bool) (x : V) : V.unw g (.opt g x) = x := by simp [V.unw]
theorem unw_t (g : Bool) (x : V) : V.unw g (.opt true x) = x := by simp [V.unw]
theorem unw_f (g : Bool) (x : V) : V.unw false (.opt g x) = x := by simp [V.unw]
theorem unw_and (g h : Bool) (x : V) : V.unw (g && h) (.opt g x) = x := by cases g <;> cases h <;> simp [V.unw]
theorem unw_and2 (g h : Bool) (x : V) : V.unw g (.opt (g && h) x) = V.unw g (.opt h x) := by cases g <;> cases h <;> simp [V.unw]
theorem pick_bb (t x y : Bool) : pickV t (.bool x) (.bool y) = some ⟨⟨.bool (if t then x else y), [], []⟩, True⟩ := rfl
theorem pick_bo (t x g y : Bool) : pickV t (.bool x) (.opt g (.bool y)) = some ⟨⟨.bool (if t then x else y), [], []⟩, t = false → g = true⟩ := rfl
theorem pick_ob (t x g y : Bool) : pickV t (.opt g (.bool x)) (.bool y) = some ⟨⟨.bool (if t then x else y), [], []⟩, t = true → g = true⟩ := rfl
theorem pick_bt (t x : Bool) : pickV t (.bool x) (.tup []) = some ⟨⟨.bool x, [], []⟩, t = true⟩ := rfl
theorem pick_tb (t y : Bool) : pickV t (.tup []) (.bool y) = some ⟨⟨.bool y, [], []⟩, t = false⟩ := rfl
theorem pick_unw (t x g h y : Bool) : pickV t (.bool x) (V.unw g (.opt h (.bool y))) = some ⟨⟨.bool (if t then x else y), [], []⟩, g = true → t = false → h = true⟩ := by
  cases g <;> cases h <;> simp [V.unw, pickV, just, justIf]
theorem pick_unw2 (t x g h y : Bool) : pickV t (V.unw g (.opt h (.bool x))) (.bool y) = some ⟨⟨.bool (if t then x else y), [], []⟩, g = true → t = true → h = true⟩ := by
  cases g <;> cases h <;> simp [V.unw, pickV, just, justIf]
theorem unw_bot (g : Bool) : V.unw g .bot = .bot := rfl
theorem unw_bool (g b : Bool) : V.unw g (.bool b) = .bool b := rfl
theorem unw_int (g : Bool) (k : IntKind) (n : Int) : V.unw g (.int k n) = .int k n := rfl
theorem unw_str (g : Bool) (s : ByteArray) : V.unw g (.str s) = .str s := rfl
theorem unw_nilS (g : Bool) : V.unw g .nilS = .nilS := rfl
theorem unw_sl (g : Bool) (e : Nat) (xs : List V) : V.unw g (.sl e xs) = .sl e xs := rfl
theorem unw_obj (g : Bool) (id n : Nat) : V.unw g (.obj id n) = .obj id n := rfl
theorem unw_ptr (g : Bool) (id n i o : Nat) : V.unw g (.ptr id n i o) = .ptr id n i o := rfl
theorem unw_tptr (g : Bool) (e : Nat) (xs : List V) (i o : Nat) : V.unw g (.tptr e xs i o) = .tptr e xs i o := rfl
theorem unw_mp (g : Bool) (id : Nat) : V.unw g (.mp id) = .mp id := rfl
theorem unw_nilP (g : Bool) : V.unw g .nilP = .nilP := rfl
theorem unw_nilF (g : Bool) : V.unw g .nilF = .nilF := rfl
theorem unw_func (g : Bool) (f : Fn) (a b : List V) : V.unw g (.func f a b) = .func f a b := rfl
theorem unw_agg (g : Bool) (cs : List V) : V.unw g (.agg cs) = .agg cs := rfl
theorem unw_tup (g : Bool) (cs : List V) : V.unw g (.tup cs) = .tup cs := rfl
theorem unw_win (g : Bool) (id n i o k : Nat) : V.unw g (.win id n i o k) = .win id n i o k := rfl
theorem unw_sn (g : Bool) (e : Nat) (xs : List V) : V.unw g (.sn e xs) = .sn e xs := rfl
theorem unw_nl (g : Bool) : V.unw g .nl = .nl := rfl
attribute [go_sem] unw_win unw_sn unw_nl unw_self unw_and unw_and2 pick_unw pick_unw2 unw_t unw_f unw_bot unw_bool unw_int unw_str unw_nilS unw_sl unw_obj unw_ptr unw_mp unw_tptr unw_nilP unw_nilF unw_func unw_agg unw_tup
def lookB {α : Type} (b : Bool) (x : α) (r : List (Nat × α)) (t : Nat) : Option α := match b with | true => some x | false => look r t
theorem look_nil {α : Type} {t : Nat} : look ([] : List (Nat × α)) t = none := rfl
theorem look_cons {α : Type} {k t : Nat} {x : α} {r : List (Nat × α)} : look ((k, x) :: r) t = lookB (t == k) x r t := by
  by_cases h : t = k
  · subst h; simp [look, lookB]
  · have h2 : (t == k) = false := by simpa using h
    rw [h2]; simp [look, lookB, h]
theorem lookB_t {α : Type} {t : Nat} {x : α} {r : List (Nat × α)} : lookB true x r t = some x := rfl
theorem lookB_f {α : Type} {t : Nat} {x : α} {r : List (Nat × α)} : lookB false x r t = look r t := rfl
@[congr] theorem lookB_congr {α : Type} {b b' : Bool} {t : Nat} {x : α} {r : List (Nat × α)} (h : b = b') : lookB b x r t = lookB b' x r t := by rw [h]
attribute [go_sem ↓] look_nil look_cons lookB_t lookB_f
theorem nth_lt {xs : List V} {i : Nat} (h : i < xs.length) : nth xs i = xs[i] := by rw [nth_eq]; simp [h]
theorem nth_map {α : Type} {f : α → V} {l : List α} {i : Nat} (h : i < l.length) : nth (l.map f) i = f l[i] := by rw [nth_eq]; simp [h]
theorem nth_set {xs : List V} {i j : Nat} {v : V} : nth (xs.set i v) j = if i = j ∧ i < xs.length then v else nth xs j := by
  rw [nth_eq, nth_eq, List.getD_eq_getElem?_getD, List.getElem?_set]
  by_cases h : i = j
  · subst h
    by_cases h2 : i < xs.length
    · simp [h2]
    · simp [h2]
  · simp [h]
attribute [go_sem] nth nth_lt nth_map List.getElem?_cons_zero List.getElem?_cons_succ
theorem ids_nil (v : V) (rd : List Nat) : Eff.ids ⟨v, [], rd⟩ = [] := rfl
theorem ids_cons (v : V) (rd : List Nat) (i : Nat) (o : Obj) (r : List (Nat × Obj)) : Eff.ids ⟨v, (i, o) :: r, rd⟩ = i :: Eff.ids ⟨v, r, rd⟩ := rfl
theorem i64_wrap {n : Int} (h1 : -9223372036854775808 ≤ n) (h2 : n ≤ 9223372036854775807) : IntKind.i64.wrap n = n := IntWalk.i64_in n ⟨h1, h2⟩
theorem u8_wrap {n : Int} (h1 : 0 ≤ n) (h2 : n ≤ 255) : IntKind.u8.wrap n = n := IntWalk.u8_in n ⟨h1, h2⟩
theorem u32_wrap {n : Int} (h1 : 0 ≤ n) (h2 : n ≤ 4294967295) : IntKind.u32.wrap n = n := IntWalk.u32_in n ⟨h1, h2⟩
theorem u64_wrap {n : Int} (h1 : 0 ≤ n) (h2 : n ≤ 18446744073709551615) : IntKind.u64.wrap n = n := IntWalk.u64_in n ⟨h1, h2⟩
attribute [go_sem] i64_wrap u8_wrap u32_wrap u64_wrap
theorem i64_min : IntKind.i64.min = -9223372036854775808 := by decide
theorem i64_max : IntKind.i64.max = 9223372036854775807 := by decide
theorem u8_min : IntKind.u8.min = 0 := by decide
theorem u8_max : IntKind.u8.max = 255 := by decide
theorem u32_min : IntKind.u32.min = 0 := by decide
theorem u32_max : IntKind.u32.max = 4294967295 := by decide
theorem u64_min : IntKind.u64.min = 0 := by decide
theorem u64_max : IntKind.u64.max = 18446744073709551615 := by decide

attribute [go_sem ↓] walk_nil walk_cons aev_skip aev_label aev_ret aev_exit aev_region aev_seq aev_cond aev_block aev_scope aev_goto scopeB_t scopeB_f jumpK_normal jumpK_exit jumpK_ret startK_exit startK_ret aev_loop nextW_app endK_draw endK_plain seqK_normal seqK_exit seqK_goto seqK_ret brV_bool br_t br_f gbr_t gbr_f blockK scopeK gstep gstepA gstepB ostep
theorem and_nat {a b : Nat} (ha : a < 4294967296) (hb : b < 4294967296) : (BitVec.ofNat 32 a &&& BitVec.ofNat 32 b).toNat = a &&& b := by
  rw [BitVec.toNat_and, BitVec.toNat_ofNat, BitVec.toNat_ofNat, Nat.mod_eq_of_lt ha, Nat.mod_eq_of_lt hb]
theorem or_nat {a b : Nat} (ha : a < 4294967296) (hb : b < 4294967296) : (BitVec.ofNat 32 a ||| BitVec.ofNat 32 b).toNat = a ||| b := by
  rw [BitVec.toNat_or, BitVec.toNat_ofNat, BitVec.toNat_ofNat, Nat.mod_eq_of_lt ha, Nat.mod_eq_of_lt hb]
def andNotN (a b : Nat) : Nat := (BitVec.ofNat 32 a &&& ~~~BitVec.ofNat 32 b).toNat
theorem andNotN_lt (a b : Nat) : andNotN a b < 4294967296 := BitVec.isLt _
theorem or_lt {a b : Nat} (ha : a < 4294967296) (hb : b < 4294967296) : a ||| b < 4294967296 := Nat.or_lt_two_pow (n := 32) ha hb
theorem and_lt {a b : Nat} (ha : a < 4294967296) : a &&& b < 4294967296 := Nat.lt_of_le_of_lt Nat.and_le_left ha
theorem bits_and {a b : Nat} (ha : a < 4294967296) (hb : b < 4294967296) : bitsV .and .u32 (a : Int) (b : Int) = some (.int .u32 ((a &&& b : Nat) : Int)) := by
  unfold bitsV
  show some (V.int .u32 (IntKind.u32.wrap (((BitVec.ofInt 32 (a : Int) &&& BitVec.ofInt 32 (b : Int)).toNat : Nat) : Int))) = _
  have := and_lt (b := b) ha
  rw [BitVec.ofInt_natCast, BitVec.ofInt_natCast, and_nat ha hb, IntWalk.u32_in _ ⟨by omega, by omega⟩]
theorem bits_or {a b : Nat} (ha : a < 4294967296) (hb : b < 4294967296) : bitsV .or .u32 (a : Int) (b : Int) = some (.int .u32 ((a ||| b : Nat) : Int)) := by
  unfold bitsV
  show some (V.int .u32 (IntKind.u32.wrap (((BitVec.ofInt 32 (a : Int) ||| BitVec.ofInt 32 (b : Int)).toNat : Nat) : Int))) = _
  have := or_lt ha hb
  rw [BitVec.ofInt_natCast, BitVec.ofInt_natCast, or_nat ha hb, IntWalk.u32_in _ ⟨by omega, by omega⟩]
theorem bits_andNot {a b : Nat} : bitsV .andNot .u32 (a : Int) (b : Int) = some (.int .u32 (andNotN a b : Int)) := by
  unfold bitsV
  show some (V.int .u32 (IntKind.u32.wrap (((BitVec.ofInt 32 (a : Int) &&& ~~~BitVec.ofInt 32 (b : Int)).toNat : Nat) : Int))) = _
  have := andNotN_lt a b
  rw [BitVec.ofInt_natCast, BitVec.ofInt_natCast]
  show some (V.int .u32 (IntKind.u32.wrap (andNotN a b : Int))) = _
  rw [IntWalk.u32_in _ ⟨by omega, by omega⟩]
theorem bits_and255 {x : Int} (h0 : 0 ≤ x) (h1 : x < 4294967296) : bitsV .and .u32 x 255 = some (.int .u32 (x % 256)) := by
  obtain ⟨a, rfl⟩ := Int.eq_ofNat_of_zero_le h0
  have := bits_and (a := a) (b := 255) (by omega) (by omega)
  rw [show ((255 : Nat) : Int) = 255 from rfl] at this
  rw [this, Nat.and_two_pow_sub_one_eq_mod a 8]
  rfl
theorem neg_u32 {a : Nat} (h0 : 0 < a) (h1 : a < 4294967296) : IntKind.u32.wrap (-(a : Int)) = ((4294967296 - a : Nat) : Int) := by
  unfold IntKind.wrap
  simp [IntKind.bits, IntKind.signed]
  omega
attribute [go_sem] hasGoto ldE
attribute [go_sem] St.unw gstepC gstepD mayG done_none pdone_none ostepA pstep isCall ids_nil ids_cons done_some pdone_some beq_want_true beq_want_false St.next_mk St.app St.get St.ev St.init istep just justIf cst csts cst1 pick_bb pick_bo pick_ob pick_bt pick_tb binS cmpV bits_and bits_or bits_andNot bits_and255 neg_u32 unS lenV ldS stS idxS sliceS bnd srcOf appS minV
  nilB strS bytesV copyS scs ptrT buildS bslS makeS elemsV fillV cellsV
  V.pure pures V.noRef noRefs V.wf wfs scal_f partV_int partV_bool partV_str partV_nilS partV_nilP partV_nilF partV_sl partV_obj partV_ptr partV_mp partV_func partV_agg setPart sizeV V.cl V.sc exOk Fin FinF resV resVs oneV i64_min i64_max u8_min u8_max u32_min u32_max u64_min u64_max
  vLe_self vsLe_self argLe_self argsLe_self pures_append renOk hpLe slLe keepOk σf obMatch keyF mlook mfind mput keyB lookS mupdS FinR St.start St.out St.res τr outU V.ren rens V.noSl noSls olds fzOk fzAll ren_pure rens_pure noSl_noRef noSls_noRefs

theorem eqCells_nil : eqCells [] [] [] = some true := by simp [eqCells]
theorem eqCells_int {k : IntKind} {a b : Int} {ts : List Nat} {r r' : List V} : eqCells (1 :: ts) (.int k a :: r) (.int k b :: r') = (eqCells ts r r').map fun t => (a == b) && t := by simp [eqCells]
theorem eqCells_bool {a b : Bool} {ts : List Nat} {r r' : List V} : eqCells (0 :: ts) (.bool a :: r) (.bool b :: r') = (eqCells ts r r').map fun t => (a == b) && t := by simp [eqCells]
theorem eqCells_str {a b : ByteArray} {ts : List Nat} {r r' : List V} : eqCells (2 :: ts) (.str a :: r) (.str b :: r') = (eqCells ts r r').map fun t => (a.toList == b.toList) && t := by simp [eqCells]
attribute [go_sem] eqCells_nil eqCells_int eqCells_bool eqCells_str

section
variable {ι : Type} {F : ι → St} {ok : ι → Prop} {m : ι → Nat} {i : ι} {Q : Exit → St → Prop} {s : St}
theorem roundK_exit {id : Nat} : RoundK F ok m i Q (.exit id) s = Q (.exit id) s := rfl
theorem roundK_goto {id : Nat} : RoundK F ok m i Q (.goto id) s = Q (.goto id) s := rfl
theorem roundK_ret : RoundK F ok m i Q .ret s = Q .ret s := rfl
theorem round_of (j : ι) (h1 : ok j) (h2 : m j < m i) (h3 : Le s (F j)) : RoundK F ok m i Q .normal s := ⟨j, h1, h2, h3⟩
end
attribute [go_sem ↓] roundK_exit roundK_goto roundK_ret

/-! what is known against what is told, constructor by constructor -/
section
variable {hp : Heap} {σ : Nat → Option (Option Nat)} {B : Nat → Prop}
theorem vLe_bot {x : V} : vLe hp σ B x .bot = True := by cases x <;> simp [vLe]
theorem vLe_nilS_obj {id n : Nat} : vLe hp σ B .nilS (.obj id n) = (n = 0 ∧ σ id = some none) := by simp [vLe]
theorem vLe_nilS_sl {e : Nat} {ys : List V} : vLe hp σ B .nilS (.sl e ys) = (ys = []) := by simp [vLe]
theorem vLe_nilS : vLe hp σ B .nilS .nilS = True := by simp [vLe, V.pure]
theorem vLe_nilP : vLe hp σ B .nilP .nilP = True := by simp [vLe, V.pure]
theorem vLe_nilF : vLe hp σ B .nilF .nilF = True := by simp [vLe, V.pure]
theorem vLe_obj {id n id' n' : Nat} : vLe hp σ B (.obj id n) (.obj id' n') = (n = n' ∧ σ id' = some (some id)) := by simp [vLe]
theorem vLe_own_sl {id n e : Nat} {ys : List V} : vLe hp σ B (.obj id n) (.sl e ys) = (B id ∧ ∃ ob, hp id = some ob ∧ n = ob.xs.length ∧ e = ob.e ∧ all2 (argLe hp B V.pure 7) ob.xs ys) := by simp only [vLe, argLe]
theorem vLe_own_ptr {id n i o e i' o' : Nat} {ys : List V} : vLe hp σ B (.ptr id n i o) (.tptr e ys i' o') = (B id ∧ ∃ ob, hp id = some ob ∧ n = ob.xs.length ∧ e = ob.e ∧ i = i' ∧ o = o' ∧ all2 (argLe hp B V.pure 7) ob.xs ys) := by simp only [vLe, argLe]
theorem vLe_win {id n i o k id' n' i' o' k' : Nat} : vLe hp σ B (.win id n i o k) (.win id' n' i' o' k') = (n = n' ∧ i = i' ∧ o = o' ∧ k = k' ∧ σ id' = some (some id)) := by simp [vLe]
theorem vLe_sn {e e' : Nat} {xs ys : List V} : vLe hp σ B (.sn e xs) (.sn e' ys) = (e = e' ∧ xs = ys) := by simp [vLe, V.pure]
theorem vLe_nl : vLe hp σ B .nl .nl = True := by simp [vLe, V.pure]
theorem vLe_mp {id id' : Nat} : vLe hp σ B (.mp id) (.mp id') = (σ id' = some (some id)) := by simp [vLe]
theorem vLe_opt {g : Bool} {x y : V} (h : y ≠ .bot) : vLe hp σ B (.opt g x) y = (g = true ∧ vLe hp σ B x y) := by cases y <;> simp_all [vLe]
theorem vLe_ptr {id n i o id' n' i' o' : Nat} : vLe hp σ B (.ptr id n i o) (.ptr id' n' i' o') = (n = n' ∧ i = i' ∧ o = o' ∧ σ id' = some (some id)) := by simp [vLe]
theorem vLe_agg {xs ys : List V} : vLe hp σ B (.agg xs) (.agg ys) = vsLe hp σ B xs ys := by simp [vLe]
theorem vLe_tup {xs ys : List V} : vLe hp σ B (.tup xs) (.tup ys) = vsLe hp σ B xs ys := by simp [vLe]
theorem vLe_func {f g : Fn} {a b c d : List V} : vLe hp σ B (.func f a b) (.func g c d) = (f = g ∧ vsLe hp σ B a c ∧ vsLe hp σ B b d) := by simp [vLe]
theorem vLe_int {k k' : IntKind} {n n' : Int} : vLe hp σ B (.int k n) (.int k' n') = (k = k' ∧ n = n') := by simp [vLe, V.pure]
theorem vLe_bool {n n' : Bool} : vLe hp σ B (.bool n) (.bool n') = (n = n') := by simp [vLe, V.pure]
theorem vLe_str {n n' : ByteArray} : vLe hp σ B (.str n) (.str n') = (n = n') := by simp [vLe, V.pure]
theorem vLe_sl {e e' : Nat} {xs ys : List V} : vLe hp σ B (.sl e xs) (.sl e' ys) = (e = e' ∧ xs = ys) := by simp [vLe, V.pure]
theorem vLe_tptr {e i o e' i' o' : Nat} {xs ys : List V} : vLe hp σ B (.tptr e xs i o) (.tptr e' ys i' o') = (e = e' ∧ xs = ys ∧ i = i' ∧ o = o') := by simp [vLe, V.pure]
theorem vsLe_nil : vsLe hp σ B [] [] = True := by simp [vsLe]
theorem vsLe_cons {x y : V} {xs ys : List V} : vsLe hp σ B (x :: xs) (y :: ys) = (vLe hp σ B x y ∧ vsLe hp σ B xs ys) := by
  apply propext; simp only [vsLe]
  constructor
  · rintro ⟨y', r, h, h1, h2⟩; cases h; exact ⟨h1, h2⟩
  · rintro ⟨h1, h2⟩; exact ⟨y, ys, rfl, h1, h2⟩
end
section
variable {hp : Heap} {B : Nat → Prop} {D : V → Prop} {k : Nat}
theorem argLe_nilS_sl {e : Nat} {ys : List V} : argLe hp B D (k + 1) .nilS (.sl e ys) = (ys = []) := by simp only [argLe]
theorem argLe_obj_sl {id n e : Nat} {ys : List V} : argLe hp B D (k + 1) (.obj id n) (.sl e ys) = (B id ∧ ∃ ob, hp id = some ob ∧ n = ob.xs.length ∧ e = ob.e ∧ all2 (argLe hp B D k) ob.xs ys) := by simp only [argLe]
theorem argLe_ptr_tptr {id n i o e i' o' : Nat} {ys : List V} : argLe hp B D (k + 1) (.ptr id n i o) (.tptr e ys i' o') = (B id ∧ ∃ ob, hp id = some ob ∧ n = ob.xs.length ∧ e = ob.e ∧ i = i' ∧ o = o' ∧ all2 (argLe hp B D k) ob.xs ys) := by simp only [argLe]
theorem argLe_win {id m i o w e : Nat} {ys : List V} : argLe hp B D (k + 1) (.win id m i o w) (.sl e ys) = (B id ∧ ∃ ob cs, hp id = some ob ∧ m = ob.xs.length ∧ e = 1 ∧ ob.xs[i]? = some (.agg cs) ∧ o + w ≤ cs.length ∧ all2 (argLe hp B D k) ((cs.drop o).take w) ys) := by simp only [argLe]
theorem argLe_agg {xs ys : List V} : argLe hp B D (k + 1) (.agg xs) (.agg ys) = all2 (argLe hp B D k) xs ys := by simp only [argLe]
theorem argLe_tup {xs ys : List V} : argLe hp B D (k + 1) (.tup xs) (.tup ys) = all2 (argLe hp B D k) xs ys := by simp only [argLe]
theorem argLe_func {f g : Fn} {a b c d : List V} : argLe hp B D (k + 1) (.func f a b) (.func g c d) = (f = g ∧ all2 (argLe hp B D k) a c ∧ all2 (argLe hp B D k) b d) := by simp only [argLe]
theorem argLe_opt {g : Bool} {x y : V} : argLe hp B D (k + 1) (.opt g x) y = (g = true ∧ argLe hp B D k x y) := by cases y <;> simp only [argLe]
theorem argLe_nilS : argLe hp B D (k + 1) .nilS .nilS = D .nilS := by simp [argLe]
theorem argLe_nilP : argLe hp B D (k + 1) .nilP .nilP = D .nilP := by simp [argLe]
theorem argLe_nilF : argLe hp B D (k + 1) .nilF .nilF = D .nilF := by simp [argLe]
theorem argLe_int {q q' : IntKind} {n n' : Int} : argLe hp B D (k + 1) (.int q n) (.int q' n') = ((q = q' ∧ n = n') ∧ D (.int q n)) := by simp [argLe]
theorem argLe_bool {n n' : Bool} : argLe hp B D (k + 1) (.bool n) (.bool n') = (n = n' ∧ D (.bool n)) := by simp [argLe]
theorem argLe_str {n n' : ByteArray} : argLe hp B D (k + 1) (.str n) (.str n') = (n = n' ∧ D (.str n)) := by simp [argLe]
theorem argLe_sl {e e' : Nat} {xs ys : List V} : argLe hp B D (k + 1) (.sl e xs) (.sl e' ys) = ((e = e' ∧ xs = ys) ∧ D (.sl e xs)) := by simp [argLe]
theorem argLe_tptr {e i o e' i' o' : Nat} {xs ys : List V} : argLe hp B D (k + 1) (.tptr e xs i o) (.tptr e' ys i' o') = ((e = e' ∧ xs = ys ∧ i = i' ∧ o = o') ∧ D (.tptr e xs i o)) := by simp [argLe]
theorem all2_nil {R : V → V → Prop} : all2 R [] [] = True := by simp only [all2]
theorem all2_cons {R : V → V → Prop} {x y : V} {xs ys : List V} : all2 R (x :: xs) (y :: ys) = (R x y ∧ all2 R xs ys) := by simp only [all2]
end
attribute [go_sem] vLe_win vLe_sn vLe_nl vLe_bot vLe_nilS_obj vLe_nilS_sl vLe_nilS vLe_nilP vLe_nilF vLe_obj vLe_own_sl vLe_own_ptr vLe_mp vLe_opt vLe_ptr vLe_agg vLe_tup vLe_func vLe_int vLe_bool vLe_str vLe_sl vLe_tptr vsLe_nil vsLe_cons
  argLe_win argLe_nilS_sl argLe_obj_sl argLe_ptr_tptr argLe_agg argLe_opt argLe_nilS argLe_nilP argLe_nilF argLe_int argLe_bool argLe_str argLe_sl argLe_tup argLe_func argLe_tptr all2_nil all2_cons

theorem awz_loop {P : Program} {E : Entry} {c : Code} {s : St} {Q : Exit → St → Prop} (hm : P.follows .mixedOrders = true) {ι : Type} (F : ι → St) (ok : ι → Prop) (m : ι → Nat) (i0 : ι) (h0 : ok i0) (hle : Le s (F i0))
    (hstep : ∀ i, ok i → aev P E c (F i) (RoundK F ok m i Q)) : AW P E (.loop c) s Q := aw_loop hm F ok m i0 h0 hle hstep

/-- Which function is called, with what. -/
def calleeV (s : St) : Op → Option (FuncId × List V)
  | .call { callee := .value fo, args, .. } => match s.ev fo with
    | .func (.func f) first caps => some (f, first ++ args.toList.map s.ev ++ caps)
    | _ => none
  | _ => none

/-- A call of a function that takes data and answers data. -/
theorem callK_data {P : Program} {fid : Nat} {o : Oper} {s : St} {K : Eff → Prop} {f : FuncId} {args0 : List V} {res : V} {gl : Globs} (h : FnD P f args0 res gl) (bor : List Nat)
    (hc : ∃ args, calleeV s o.op = some (f, args) ∧ all2 (argLe (look s.hp) (· ∈ bor) V.pure 8) args args0)
    (hb : bor = [] ∨ res.noRef) (hp : res.pure) (hK : res.wf → K ⟨res, [], bor⟩) (hG : ∀ p ∈ gl, look s.gl p.1 = some p.2 := by simp [go_sem]) : callK P fid o s K := by
  obtain ⟨args', h1, h2⟩ := hc
  unfold calleeV at h1
  split at h1
  · rename_i fo args tys ho
    split at h1
    · rename_i f' first caps hf
      cases h1
      exact ⟨_, .inl ⟨⟨fo, args, tys, f, first, caps, args0, res, bor, [], gl, ho, hf, h, hG, h2, .inl ⟨rfl, hb.imp_right .inl⟩, hp, rfl⟩⟩, hK⟩
    · cases h1
  · cases h1
/-- A call of a function whose answer is all new: whatever may be lent to it. -/
theorem callK_fresh {P : Program} {fid : Nat} {o : Oper} {s : St} {K : Eff → Prop} {f : FuncId} {args0 : List V} {res : V} {gl : Globs} (h : FnF P f args0 res gl) (bor : List Nat)
    (hc : ∃ args, calleeV s o.op = some (f, args) ∧ all2 (argLe (look s.hp) (· ∈ bor) V.pure 8) args args0)
    (hp : res.pure) (hK : res.wf → K ⟨res, [], bor⟩) (hG : ∀ p ∈ gl, look s.gl p.1 = some p.2 := by simp [go_sem]) : callK P fid o s K := by
  obtain ⟨args', h1, h2⟩ := hc
  unfold calleeV at h1
  split at h1
  · rename_i fo args tys ho
    split at h1
    · rename_i f' first caps hf
      cases h1
      exact ⟨_, .inl ⟨⟨fo, args, tys, f, first, caps, args0, res, bor, [], gl, ho, hf, h.data, hG, h2, .inl ⟨rfl, .inr (.inr h)⟩, hp, rfl⟩⟩, hK⟩
    · cases h1
  · cases h1
/-- A call to which things are lent for good: nobody writes them any more. -/
theorem callK_frz {P : Program} {fid : Nat} {o : Oper} {s : St} {K : Eff → Prop} {f : FuncId} {args0 : List V} {res : V} {gl : Globs} (h : FnD P f args0 res gl) (bor : List Nat) (fz : List (Nat × Obj))
    (hc : ∃ args, calleeV s o.op = some (f, args) ∧ all2 (argLe (look s.hp) (· ∈ bor) V.pure 8) args args0)
    (hz : fzOk (look s.hp) bor s.nb fz ∧ fzAll (look s.hp) bor fz) (hp : res.pure) (hK : res.wf → K ⟨res, fz, bor⟩) (hG : ∀ p ∈ gl, look s.gl p.1 = some p.2 := by simp [go_sem]) : callK P fid o s K := by
  obtain ⟨args', h1, h2⟩ := hc
  unfold calleeV at h1
  split at h1
  · rename_i fo args tys ho
    split at h1
    · rename_i f' first caps hf
      cases h1
      exact ⟨_, .inl ⟨⟨fo, args, tys, f, first, caps, args0, res, bor, fz, gl, ho, hf, h, hG, h2, .inr hz, hp, rfl⟩⟩, hK⟩
    · cases h1
  · cases h1

mutual
theorem wf_ren {τ : Nat → Nat} : ∀ {x : V}, (x.ren τ).wf → x.wf
  | .bot, h => by simp [V.wf]
  | .bool b, h => by simp [V.wf]
  | .int k n, h => h
  | .str s, h => by simp [V.wf]
  | .nilS, h => by simp [V.wf]
  | .sl e xs, h => h
  | .nl, h => by simp [V.wf]
  | .sn e xs, h => h
  | .win id n i o k, h => by simp [V.wf]
  | .obj id n, h => by simp [V.wf]
  | .ptr id n i o, h => by simp [V.wf]
  | .mp id, h => by simp [V.wf]
  | .tptr e xs i o, h => by simp [V.wf]
  | .nilP, h => by simp [V.wf]
  | .func fn f cs, h => by simp [V.wf]
  | .nilF, h => by simp [V.wf]
  | .agg cs, h => by
    simp only [V.ren, V.wf] at h ⊢
    exact wfs_rens h
  | .tup vs, h => by
    simp only [V.ren, V.wf] at h ⊢
    exact wfs_rens h
  | .opt g x, h => by simp [V.wf]
theorem wfs_rens {τ : Nat → Nat} : ∀ {xs : List V}, wfs (rens τ xs) → wfs xs
  | [], h => by simp [wfs]
  | x :: xs, h => by
    simp only [rens, wfs] at h ⊢
    exact ⟨wf_ren h.1, wfs_rens h.2⟩
end

def hpMatch (hp : Heap) (σ : Ren) (B : Nat → Prop) : Nat → List Obj → Prop
  | _, [] => True
  | i, o :: r => obMatch hp σ B i o ∧ hpMatch hp σ B (i + 1) r
theorem hpMatch_at {hp : Heap} {σ : Ren} {B : Nat → Prop} : ∀ {l : List Obj} {k : Nat}, hpMatch hp σ B k l → ∀ i o, l[i]? = some o → obMatch hp σ B (k + i) o
  | [], _, _, i, o, h => by simp at h
  | x :: l, k, h, i, o, ho => by
    simp only [hpMatch] at h
    cases i with
    | zero => simp at ho; subst ho; exact h.1
    | succ i => have := hpMatch_at h.2 i o (by simpa using ho); rwa [show k + 1 + i = k + (i + 1) by omega] at this
def noRo : List Obj → Prop
  | [] => True
  | o :: r => o.k ≠ .ro ∧ noRo r
theorem noRo_mem : ∀ {l : List Obj}, noRo l → ∀ o ∈ l, o.k ≠ .ro
  | x :: l, h, o, ho => by
    simp only [noRo] at h
    rcases List.mem_cons.1 ho with rfl | ho
    · exact h.1
    · exact noRo_mem h.2 o ho
def obsNoSl : List Obj → Prop
  | [] => True
  | o :: r => noSls o.xs ∧ obsNoSl r
theorem obsNoSl_mem : ∀ {l : List Obj}, obsNoSl l → ∀ o ∈ l, noSls o.xs
  | x :: l, h, o, ho => by
    simp only [obsNoSl] at h
    rcases List.mem_cons.1 ho with rfl | ho
    · exact h.1
    · exact obsNoSl_mem h.2 o ho
def disj : List Nat → List Nat → Prop
  | [], _ => True
  | x :: r, l => x ∉ l ∧ disj r l
theorem disj_mem : ∀ {a l : List Nat}, disj a l → ∀ x ∈ a, x ∉ l
  | y :: a, l, h, x, hx => by
    simp only [disj] at h
    rcases List.mem_cons.1 hx with rfl | hx
    · exact h.1
    · exact disj_mem h.2 x hx
def exAbove : List Nat → Nat → Nat → Prop
  | [], _, _ => True
  | x :: r, fid, n => (x < fid ∨ fid + n ≤ x) ∧ exAbove r fid n
theorem exAbove_mem : ∀ {l : List Nat} {fid n : Nat}, exAbove l fid n → ∀ x ∈ l, x < fid ∨ fid + n ≤ x
  | y :: l, fid, n, h, x, hx => by
    simp only [exAbove] at h
    rcases List.mem_cons.1 hx with rfl | hx
    · exact h.1
    · exact exAbove_mem h.2 x hx

/-- A call by reference, what it does. σ: which of the caller's objects stands under which of the callee's numbers (none: a row that is still to be made); live: these; bor: what is lent to it besides; fz: what of it nobody writes any more. -/
theorem callR_of {P : Program} {fid : Nat} {o : Oper} {s : St} {f : FuncId} {obs obs' : List Obj} {args0 : List V} {res : V} {gl : Globs} (h : FnR P f obs args0 obs' res gl) (σ : Ren) (live bor : List Nat) (fz : List (Nat × Obj))
    (hc : ∃ args, calleeV s o.op = some (f, args) ∧ vsLe (look s.hp) (σf σ) (· ∈ bor) args args0)
    (hh : renOk obs.length live σ ∧ disj live bor ∧ hpMatch (look s.hp) σ (· ∈ bor) 0 obs)
    (hn : noRo obs' ∧ s.nx ≤ fid ∧ exAbove s.ex fid obs'.length)
    (hs : (fz = [] ∧ (bor = [] ∨ (res.noSl ∧ obsNoSl obs'))) ∨ (fzOk (look s.hp) bor s.nb fz ∧ fzAll (look s.hp) bor fz))
    (hG : gl = [] ∨ gl = s.gl) : CallR P o s.ev (look s.hp) (fun i => i < s.nx ∨ i ∈ s.ex) (look s.gl) s.nb fid ⟨res.ren (τr σ fid), outU (τr σ fid) 0 obs' ++ fz, bor ++ olds σ⟩ := by
  obtain ⟨args', h1, h2⟩ := hc
  unfold calleeV at h1
  split at h1
  · rename_i fo args tys ho
    split at h1
    · rename_i f' first caps hf
      cases h1
      have hj := renOk_inj hh.1
      refine ⟨⟨fo, args, tys, f, first, caps, obs, args0, obs', res, σ, bor, fz, gl, ho, hf, h, fun g p hg => ?_, h2, ⟨fun i j hij => ?_, fun i hi => (hj.1 i _ hi).1, hj.2, fun i o ho => by have := hpMatch_at hh.2.2 i o ho; rwa [Nat.zero_add] at this⟩, noRo_mem hn.1, fun i hi _ hk => ?_, ?_, rfl⟩⟩
      · rcases hG with rfl | rfl
        · simp [glf, look] at hg
        · exact hg
      · have := hj.1 i _ hij
        exact ⟨this.1, disj_mem hh.2.1 j (this.2 j rfl)⟩
      · rcases hk with hk | hk
        · omega
        · have := exAbove_mem hn.2.2 _ hk; omega
      · exact hs.imp_left fun h => ⟨h.1, h.2.imp_right fun h => ⟨h.1, obsNoSl_mem h.2⟩⟩
    · cases h1
  · cases h1
/-- A CALL BY REFERENCE. σ: which of the caller's objects stands under which of the callee's numbers (none: a row that is still to be made); live: these; bor: what is lent to it besides; fz: what of it nobody writes any more. -/
theorem callK_ref {P : Program} {fid : Nat} {o : Oper} {s : St} {K : Eff → Prop} {f : FuncId} {obs obs' : List Obj} {args0 : List V} {res : V} {gl : Globs} (h : FnR P f obs args0 obs' res gl) (σ : Ren) (live bor : List Nat) (fz : List (Nat × Obj))
    (hc : ∃ args, calleeV s o.op = some (f, args) ∧ vsLe (look s.hp) (σf σ) (· ∈ bor) args args0)
    (hh : renOk obs.length live σ ∧ disj live bor ∧ hpMatch (look s.hp) σ (· ∈ bor) 0 obs)
    (hn : noRo obs' ∧ s.nx ≤ fid ∧ exAbove s.ex fid obs'.length)
    (hs : (fz = [] ∧ (bor = [] ∨ (res.noSl ∧ obsNoSl obs'))) ∨ (fzOk (look s.hp) bor s.nb fz ∧ fzAll (look s.hp) bor fz))
    (hK : res.wf → K ⟨res.ren (τr σ fid), outU (τr σ fid) 0 obs' ++ fz, bor ++ olds σ⟩) (hG : gl = [] ∨ gl = s.gl := by simp [go_sem]) : callK P fid o s K :=
  ⟨_, .inr (.inl (callR_of h σ live bor fz hc hh hn hs hG)), fun hw => hK (wf_ren hw)⟩
/-- A call by reference that leaves all as it was. -/
theorem callK_same {P : Program} {fid : Nat} {o : Oper} {s : St} {K : Eff → Prop} {f : FuncId} {obs : List Obj} {args0 : List V} {res : V} {gl : Globs} (h : FnR P f obs args0 obs res gl) (σ : Ren) (live : List Nat)
    (hc : ∃ args, calleeV s o.op = some (f, args) ∧ vsLe (look s.hp) (σf σ) (· ∈ ([] : List Nat)) args args0)
    (hh : renOk obs.length live σ ∧ disj live [] ∧ hpMatch (look s.hp) σ (· ∈ ([] : List Nat)) 0 obs)
    (hn : noRo obs ∧ s.nx ≤ fid ∧ exAbove s.ex fid obs.length)
    (hs : ∀ p ∈ outU (τr σ fid) 0 obs, look s.hp p.1 = some p.2)
    (hK : res.wf → K ⟨res.ren (τr σ fid), [], olds σ ++ (outU (τr σ fid) 0 obs).map (·.1)⟩) (hG : gl = [] ∨ gl = s.gl := by simp [go_sem]) : callK P fid o s K := by
  have hr := callR_of h σ live [] [] hc hh hn (.inl ⟨rfl, .inl rfl⟩) hG
  refine ⟨_, .inr (.inr (.inr ⟨_, hr, fun p hp => hs p (by simpa using hp), rfl⟩)), fun hw => ?_⟩
  have := hK (wf_ren hw)
  simpa [Eff.ids] using this
/-- Which plain function is called, with what. -/
def calleeX (s : St) : Op → Option (FuncId × List V)
  | .call { callee := .value fo, args, .. } => match s.ev fo with
    | .func (.func f) [] [] => some (f, args.toList.map s.ev)
    | _ => none
  | _ => none
/-- A call of a function without a body. -/
theorem callK_ext {P : Program} {fid : Nat} {o : Oper} {s : St} {K : Eff → Prop} {f : FuncId} {args0 : List V} {res : V} (h : FnX P f args0 res) (bor : List Nat) (hc : ∃ args, calleeX s o.op = some (f, args) ∧ all2 (argLe (look s.hp) (· ∈ bor) V.pure 8) args args0) (hK : res.wf → K ⟨res, [], bor⟩) : callK P fid o s K := by
  obtain ⟨args', hc, h2⟩ := hc
  unfold calleeX at hc
  split at hc
  · rename_i fo args tys ho
    split at hc
    · rename_i f' hf
      cases hc
      exact ⟨_, .inr (.inr (.inl ⟨fo, args, tys, f, args0, res, bor, ho, hf, h, h2, rfl⟩)), hK⟩
    · cases hc
  · cases hc
attribute [go_sem] calleeX
theorem obsL_nil {k : Nat} : obsL k [] = [] := rfl
theorem obsL_cons {k : Nat} {x : Obj} {r : List Obj} : obsL k (x :: r) = (k, x) :: obsL (k + 1) r := by simp [obsL, List.range'_succ]
attribute [go_sem] obsL_nil obsL_cons calleeV hpMatch noRo obsNoSl disj exAbove
/-- The same, of a yes or no: each answer by itself. -/
theorem callK_bool {P : Program} {fid : Nat} {o : Oper} {s : St} {K : Eff → Prop} {f : FuncId} {args0 : List V} {b : Bool} {gl : Globs} (h : FnD P f args0 (.bool b) gl) (bor : List Nat)
    (hc : ∃ args, calleeV s o.op = some (f, args) ∧ all2 (argLe (look s.hp) (· ∈ bor) V.pure 8) args args0)
    (h1 : b = true → K ⟨.bool true, [], bor⟩) (h2 : b = false → K ⟨.bool false, [], bor⟩) (hG : ∀ p ∈ gl, look s.gl p.1 = some p.2 := by simp [go_sem])   : callK P fid o s K := by
  refine callK_data h bor hc (.inr (by simp [V.noRef])) (by simp [V.pure]) (fun _ => ?_) hG
  cases b with
  | true => exact h1 rfl
  | false => exact h2 rfl

end Go.AM

