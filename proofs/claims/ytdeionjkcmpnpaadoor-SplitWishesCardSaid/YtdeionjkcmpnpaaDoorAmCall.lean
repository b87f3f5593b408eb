/- Calls of functions: data to data; objects handed in and given back. The judgement of an operation, guard and all. -/
import Derived.Test.YtdeionjkcmpnpaaDoorAmTell
set_option linter.unusedSimpArgs false
set_option linter.unusedVariables false
namespace Go.AM
open Go.RowKit

def dctx (w : World) (O : Nat → Prop) : Ctx := ⟨w, O, fun _ => none, fun _ => .nilFunc, fun _ => False, true⟩

theorem RV_dctx {c : Ctx} (x : V) (v : Value) (h : RV { c with data := true } x v) : RV (dctx c.w c.O) x v :=
  RV_keep (c := { c with data := true }) (c' := dctx c.w c.O) ⟨Nat.le_refl _, fun _ _ _ _ => rfl, fun _ _ h => h, rfl, by simp, by simp⟩ x v h

theorem RV_ofD {c : Ctx} (hc : c.data = false) (x : V) (v : Value) (h : RV (dctx c.w c.O) x v) : RV c x v := by
  have := RV_keep (c := dctx c.w c.O) (c' := { c with data := true }) ⟨Nat.le_refl _, fun _ _ _ _ => rfl, fun _ _ h => h, rfl, by simp [dctx], by simp [dctx]⟩ x v h
  have h2 := RV_data (c := c) x v this
  have : ({ c with data := false } : Ctx) = c := by cases c; simp_all
  rwa [this] at h2

/-- What package-level variables hold: number, cells of an element, elements. -/
abbrev Globs := List (Nat × Nat × List V)
def GlobW (w : World) (O : Nat → Prop) (gl : Globs) : Prop := ∀ p ∈ gl, RV (dctx w O) (.tptr p.2.1 p.2.2 0 0) (.pointer (some ⟨p.1, 0, none⟩))
theorem GlobW_nil {w : World} {O : Nat → Prop} : GlobW w O [] := by simp [GlobW]

/-- THE CONTRACT of a function that takes data and answers data: what it answers, in whatever memory; what there was stays as it was. -/
def FnD (P : Program) (f : FuncId) (args : List V) (res : V) (gl : Globs := []) : Prop :=
  (∃ fn, P.funcs[f]? = some fn ∧ fn.body.isSome = true ∧ (fn.name == "runtime.NumGoroutine") = false) ∧
  ∀ (w : World) (O : Nat → Prop) (cargs : Array Value), (∀ b, O b → b < w.heap.size) → RVl (dctx w O) args cargs.toList → GlobW w O gl →
    Calls P f cargs w fun e w' => ∃ v, e = .returned v ∧ RV (dctx w' O) res v ∧ w.grownBy w' none

/-- The contract of a function whose answer leans on nothing that was there: its memory is all new. -/
def FnF (P : Program) (f : FuncId) (args : List V) (res : V) (gl : Globs := []) : Prop :=
  (∃ fn, P.funcs[f]? = some fn ∧ fn.body.isSome = true ∧ (fn.name == "runtime.NumGoroutine") = false) ∧
  ∀ (w : World) (O : Nat → Prop) (cargs : Array Value), (∀ b, O b → b < w.heap.size) → RVl (dctx w O) args cargs.toList → GlobW w O gl →
    Calls P f cargs w fun e w' => ∃ v, e = .returned v ∧ RV (dctx w' fun b => b < w.heap.size) res v ∧ w.grownBy w' none

theorem FnF.data {P : Program} {f : FuncId} {args : List V} {res : V} {gl : Globs} (h : FnF P f args res gl) : FnD P f args res gl :=
  ⟨h.1, fun w O cargs hO hargs hgl => (h.2 w O cargs hO hargs hgl).mono fun e w' ⟨v, he, hv, hg⟩ =>
    ⟨v, he, RV_keep (c := dctx w' fun b => b < w.heap.size) (c' := dctx w' O) ⟨Nat.le_refl _, fun _ _ _ _ => rfl, fun b _ hb => hO b hb, rfl, by simp [dctx], by simp [dctx]⟩ _ _ hv, hg⟩⟩

section
variable {P : Program} {E : Entry} {s : FSt} {a : Act} {w : World} {η : Nat → Value} {o : Oper}

/-- The blocks of what is lent. -/
def Bor (η : Nat → Value) (bor : List Nat) (b : Nat) : Prop := ∃ id ∈ bor, blk (η id) = some b

theorem lend {bor : List Nat} : Keeps ({ s.ctx E w η with data := true }) (dctx w fun b => (s.ctx E w η).O b ∧ ¬ Bor η bor b) :=
  ⟨Nat.le_refl _, fun _ _ _ _ => rfl, fun _ _ h => h.1, rfl, by simp, by simp⟩

theorem args_sound (hr : Rel E s a w η) {bor : List Nat} {n : Nat} {xs ys : List V} {us : List Value} (h : all2 (argLe s.hp (· ∈ bor) V.pure n) xs ys) (hx : RVl (s.ctx E w η) xs us) :
    RVl (dctx w fun b => (s.ctx E w η).O b ∧ ¬ Bor η bor b) ys us :=
  all2_sound (c := s.ctx E w η) (argLe_sound (c := s.ctx E w η) (c' := dctx w fun b => (s.ctx E w η).O b ∧ ¬ Bor η bor b) hr.laid rfl rfl (fun x v hp hx => RV_keep lend _ _ (RV_pure x v hp hx)) (fun id _ _ hb _ hg h => h.2 ⟨id, hb, hg⟩) n) _ _ _ h hx

theorem RV_gl {c : Ctx} {e : Nat} {xs : List V} {v : Value} (h : RV c (.tptr e xs 0 0) v) : RV { c with data := true } (.tptr e xs 0 0) v := by simpa only [RV] using h

/-! ### what is lent for good: nobody writes it any more -/

/-- fz: what is lent for good, as it will be told from then on. -/
def fzOk (hp : Heap) (bor : List Nat) (nb : Nat) : List (Nat × Obj) → Prop
  | [] => True
  | (i, o) :: r => (i ∈ bor ∧ ¬ i < nb ∧ ∃ ob, hp i = some ob ∧ ob.k ≠ .map ∧ o.k = .ro ∧ o.T = ob.T ∧ o.e = ob.e ∧ all2 (argLe hp (· ∈ bor) V.pure 8) ob.xs o.xs ∧ pures o.xs) ∧ (∀ p ∈ r, p.1 ≠ i) ∧ fzOk hp bor nb r
def fzAll (hp : Heap) (bor : List Nat) (fz : List (Nat × Obj)) : Prop := ∀ i ∈ bor, i ∈ fz.map (·.1) ∨ ∃ ob, hp i = some ob ∧ ob.k = .ro

theorem fzOk_at {hp : Heap} {bor : List Nat} {nb : Nat} : ∀ {fz : List (Nat × Obj)}, fzOk hp bor nb fz → ∀ i, i ∈ fz.map (·.1) → ∃ o ob, updHp fz hp i = some o ∧ i ∈ bor ∧ ¬ i < nb ∧ hp i = some ob ∧ ob.k ≠ .map ∧ o.k = .ro ∧ o.T = ob.T ∧ o.e = ob.e ∧ all2 (argLe hp (· ∈ bor) V.pure 8) ob.xs o.xs ∧ pures o.xs
  | [], _, i, hi => by simp at hi
  | (k, o) :: r, h, i, hi => by
    simp only [fzOk] at h
    simp only [updHp]
    by_cases hik : i = k
    · subst hik
      simp only [if_true]
      obtain ⟨⟨h1, h2, ob, h3⟩, _⟩ := h
      exact ⟨o, ob, rfl, h1, h2, h3⟩
    · simp only [hik, if_false]
      exact fzOk_at h.2.2 i (by simpa [hik] using hi)

def FSt.upd (s : FSt) (l : List (Nat × Obj)) : FSt := { s with hp := updHp l s.hp, kn := fun i => i ∈ l.map (·.1) ∨ s.kn i }

theorem Rel.freeze (hr : Rel E s a w η) {bor : List Nat} {fz : List (Nat × Obj)} (h : fzOk s.hp bor s.nb fz) (hall : fzAll s.hp bor fz) : Rel E (s.upd fz) a w η ∧ ∀ b, ((s.upd fz).ctx E w η).O b ↔ ((s.ctx E w η).O b ∧ ¬ Bor η bor b) := by
  have hat := fun i hi => fzOk_at h i hi
  have hnot : ∀ i, i ∉ fz.map (·.1) → updHp fz s.hp i = s.hp i := fun i hi => updHp_not _ _ _ hi
  have hone : ∀ b, E.base b → ∀ i o, s.hp i = some o → blk (η i) = some b → False := fun b hb i o ho hbi => by
    by_cases hk : o.k = .ro
    · exact (hr.laid.obj i o ho).ro hk b hbi (.inl hb)
    · have h1 := E.hb b hb
      rcases hr.fresh b ⟨i, o, ho, hk, hbi⟩ with h2 | h2
      · exact h1.2 h2
      · omega
  have hO : ∀ b, ((s.upd fz).ctx E w η).O b ↔ ((s.ctx E w η).O b ∧ ¬ Bor η bor b) := by
    intro b
    constructor
    · rintro (hb | ⟨i, o, ho, hk, hbi⟩)
      · refine ⟨.inl hb, ?_⟩
        rintro ⟨id, hid, hbi⟩
        rcases hall id hid with hz | ⟨ob, hob, _⟩
        · obtain ⟨_, ob, _, _, _, hob, _⟩ := hat id hz
          exact hone b hb id ob hob hbi
        · exact hone b hb id ob hob hbi
      · have hi : i ∉ fz.map (·.1) := fun hi => by
          obtain ⟨o', ob, h1, _, _, _, _, h2, _⟩ := hat i hi
          have ho' : updHp fz s.hp i = some o := ho
          rw [h1] at ho'; cases ho'
          exact hk h2
        have ho' : s.hp i = some o := by rw [← hnot i hi]; exact ho
        refine ⟨.inr ⟨i, o, ho', hk, hbi⟩, ?_⟩
        rintro ⟨id, hid, hbid⟩
        rcases hall id hid with hz | ⟨ob, hob, hro⟩
        · obtain ⟨_, ob, _, _, _, hob, _⟩ := hat id hz
          by_cases hko : ob.k = .ro
          · exact (hr.laid.obj id ob hob).ro hko b hbid (.inr ⟨i, o, ho', hk, hbi⟩)
          · have := hr.laid.inj i id o ob b ho' hob hk hko hbi hbid
            subst this
            exact hi hz
        · exact (hr.laid.obj id ob hob).ro hro b hbid (.inr ⟨i, o, ho', hk, hbi⟩)
    · rintro ⟨hb | ⟨i, o, ho, hk, hbi⟩, hn⟩
      · exact .inl hb
      · have hi : i ∉ fz.map (·.1) := fun hi => by
          obtain ⟨_, _, _, h1, _⟩ := hat i hi
          exact hn ⟨i, h1, hbi⟩
        exact .inr ⟨i, o, by show updHp fz s.hp i = _; rw [hnot i hi]; exact ho, hk, hbi⟩
  refine ⟨?_, hO⟩
  have hlen : ∀ i, i ∈ fz.map (·.1) → ∀ o, updHp fz s.hp i = some o → ∃ ob, s.hp i = some ob ∧ o.e = ob.e ∧ o.xs.length = ob.xs.length ∧ ob.k ≠ .map ∧ o.k = .ro := fun i hi o ho => by
    obtain ⟨o', ob, h1, _, _, h2, h3, h4, _, h5, h6, _⟩ := hat i hi
    rw [h1] at ho; cases ho
    exact ⟨ob, h2, h5, (all2_length h6).symm, h3, h4⟩
  have K : Keeps (s.ctx E w η) ((s.upd fz).ctx E w η) := by
    refine ⟨Nat.le_refl _, fun _ _ _ _ => rfl, fun b _ hb => ((hO b).1 hb).1, rfl, fun _ _ h => .inr h, fun _ i hi => ?_⟩
    unfold EvoAt
    simp only [FSt.ctx, FSt.upd]
    by_cases hz : i ∈ fz.map (·.1)
    · obtain ⟨o', ob, h1, _, _, h2, h3, h4, _, h5, h6, _⟩ := hat i hz
      rw [h1, h2]
      refine ⟨h5, ⟨fun h => (by rw [h4] at h; cases h), fun h => absurd h h3⟩, fun h => absurd h h3, by rw [all2_length h6]; exact Nat.le_refl _, fun _ => by trivial⟩
    · rw [hnot i hz]
      cases s.hp i <;> simp
  refine ⟨fun t => RV_keep K _ _ (hr.slots t), ⟨fun i o ho => ?_, fun i j o1 o2 b h1 h2 k1 k2 b1 b2 => ?_⟩, hr.since, fun b hb => ?_, hr.tmps, hr.defers, ⟨hr.held.nb, fun i hi => ?_⟩, fun g p hp => RV_keep K _ _ (hr.glob g p hp), fun p hp => RV_keep K.asData _ _ (hr.ghost p hp)⟩
  · have ho' : updHp fz s.hp i = some o := ho
    by_cases hz : i ∈ fz.map (·.1)
    · obtain ⟨o', ob, h1, h0, _, h2, h3, h4, h7, h5, h6, h8⟩ := hat i hz
      rw [h1] at ho'; cases ho'
      obtain ⟨p, l, n, ⟨us, r1, r2⟩, hro, hown, hbx⟩ := hr.laid.obj i ob h2
      obtain ⟨_, _, _, us, q1, q2, q3, q4⟩ := laid_row hr h2 h3
      refine ⟨by rw [h5]; exact p, .inr l, by rw [← all2_length h6]; exact n, ⟨us, ?_, ?_⟩, fun _ b hb hOb => ?_, fun hk => absurd h4 hk, fun hk => by rw [h4] at hk; cases hk⟩
      · rw [show decide (o.k = Kind.ro) = true by simpa using h4]
        have := args_sound hr h6 q1
        exact RVl_keep (c := dctx w fun b => (s.ctx E w η).O b ∧ ¬ Bor η bor b) (c' := { (s.upd fz).ctx E w η with data := true }) ⟨Nat.le_refl _, fun _ _ _ _ => rfl, fun b _ hb => (hO b).1 hb, rfl, by simp [dctx], by simp [dctx]⟩ _ _ this
      · unfold RowAt
        rw [if_neg (by rw [h4]; simp), h5, h7, ← all2_length h6]
        exact ⟨q2, q3, q4⟩
      · exact ((hO b).1 hOb).2 ⟨i, h0, hb⟩
    · rw [hnot i hz] at ho'
      obtain ⟨p, l, n, ⟨us, r1, r2⟩, hro, hown, hbx⟩ := hr.laid.obj i o ho'
      refine ⟨p, .inr l, n, ⟨us, RVl_keep (K.withData rfl _) _ _ r1, r2⟩, fun hk b hb hOb => hro hk b hb ((hO b).1 hOb).1, fun hk b hb => .inr ⟨i, o, ho, hk, hb⟩, hbx⟩
  · have key : ∀ i o, updHp fz s.hp i = some o → o.k ≠ .ro → s.hp i = some o := fun i o ho hk => by
      by_cases hz : i ∈ fz.map (·.1)
      · obtain ⟨_, _, _, _, _, h4⟩ := hlen i hz o ho
        exact absurd h4 hk
      · rwa [hnot i hz] at ho
    exact hr.laid.inj i j o1 o2 b (key i o1 h1 k1) (key j o2 h2 k2) k1 k2 b1 b2
  · obtain ⟨i, o, ho, hk, hbi⟩ := hb
    have ho' : updHp fz s.hp i = some o := ho
    by_cases hz : i ∈ fz.map (·.1)
    · obtain ⟨_, _, _, _, _, h4⟩ := hlen i hz o ho'
      exact absurd h4 hk
    · rw [hnot i hz] at ho'
      exact hr.fresh b ⟨i, o, ho', hk, hbi⟩
  · obtain ⟨h1, o0, o, h2, h3, h4⟩ := hr.held.at_ i hi
    have hz : i ∉ fz.map (·.1) := fun hz => by
      obtain ⟨_, _, _, _, h5, _⟩ := hat i hz
      exact h5 hi
    exact ⟨.inr h1, o0, o, h2, by show updHp fz s.hp i = _; rw [hnot i hz]; exact h3, h4⟩

/-! ### a call that takes data and answers data -/

structure CallJ (P : Program) (o : Oper) (ρ : Operand → V) (hp : Heap) (G : Nat → Option (Nat × List V)) (nb : Nat) (e : Eff) : Prop where
  ex : ∃ fo args tys f first caps args0 res bor fz gl, o.op = .call { callee := .value fo, args := args, argTypes := tys } ∧ ρ fo = .func (.func f) first caps ∧ FnD P f args0 res gl ∧ (∀ p ∈ gl, G p.1 = some p.2) ∧
    all2 (argLe hp (· ∈ bor) V.pure 8) (first ++ args.toList.map ρ ++ caps) args0 ∧ ((fz = [] ∧ (bor = [] ∨ res.noRef ∨ FnF P f args0 res gl)) ∨ (fzOk hp bor nb fz ∧ fzAll hp bor fz)) ∧ res.pure ∧ e = ⟨res, fz, bor⟩

theorem own_lt (hr : Rel E s a w η) : ∀ b, (s.ctx E w η).O b → b < w.heap.size := fun b hb => by
  rcases hb with hb | ⟨id, ob, hid, _, hb⟩
  · exact Nat.lt_of_lt_of_le (E.hb b hb).1 hr.since.size
  · obtain ⟨us, _, r⟩ := (hr.laid.obj id ob hid).row
    exact r.lt hb

theorem enter_run (hr : Rel E s a w η) {fo : Operand} {args : Array Operand} {tys : Array TypeId} {f : FuncId} {first caps : List V} (ho : o.op = .call { callee := .value fo, args := args, argTypes := tys }) (hf : s.ev fo = .func (.func f) first caps)
    (hfn : ∃ fn, P.funcs[f]? = some fn ∧ fn.body.isSome = true ∧ (fn.name == "runtime.NumGoroutine") = false) :
    ∃ cargs : Array Value, RVl (s.ctx E w η) (first ++ args.toList.map s.ev ++ caps) cargs.toList ∧ (execOp a.eval o).run P w = .ok (.enter f cargs) w := by
  obtain ⟨fn, hfn, hbody, hname⟩ := hfn
  have hfv := ev_sound hr fo
  rw [hf] at hfv
  simp only [RV] at hfv
  obtain ⟨f1, c1, hfv, hf1, hc1⟩ := hfv
  refine ⟨f1 ++ args.map a.eval ++ c1, ?_, ?_⟩
  · have := RVl_append (RVl_append hf1 (evs_sound hr args.toList)) hc1
    simpa using this
  · unfold execOp
    have hb : ¬ fn.body = none := fun h => by simp [h] at hbody
    have hn : ¬ fn.name = "runtime.NumGoroutine" := by simpa using hname
    simp [ho, hfv, resolve, Deferred.ofValue, invoke, callFunc, hfn, hn, hb]

theorem FSt.app_upd (s : FSt) (d : Option Tmp) (v : V) (l : List (Nat × Obj)) (rd : List Nat) : s.app d ⟨v, l, rd⟩ = (s.upd l).put d v := by
  unfold FSt.app FSt.put FSt.upd Eff.ids
  cases d with
  | none => rfl
  | some d => by_cases hd : d < s.N <;> simp [hd]

theorem callD_run (hr : Rel E s a w η) {e : Eff} (h : CallJ P o s.ev s.hp s.gl s.nb e) : ∃ f cargs v0, e.val = v0 ∧ (execOp a.eval o).run P w = .ok (.enter f cargs) w ∧ Calls P f cargs w fun e' w' => ∃ v, e' = .returned v ∧ RV ((s.upd e.upd).ctx E w' η) e.val v ∧ Rel E (s.upd e.upd) a w' η := by
  obtain ⟨fo, args, tys, f, first, caps, args0, res, bor, fz, gl, ho, hf, ⟨hex, hfd⟩, hG, hargs, hbor, hpure, rfl⟩ := h.ex
  obtain ⟨cargs, hall, hrun⟩ := enter_run hr ho hf hex
  have hOs := own_lt hr
  have hgl : GlobW w (fun b => (s.ctx E w η).O b ∧ ¬ Bor η bor b) gl := fun p hp => by
    have h1 := hr.glob p.1 p.2 (hG p hp)
    exact RV_keep lend _ _ (RV_gl h1)
  refine ⟨f, cargs, res, rfl, hrun, ?_⟩
  rcases hbor with ⟨rfl, hbor⟩ | ⟨hz, hza⟩
  · have hu : s.upd [] = s := by unfold FSt.upd; simp [updHp]
    simp only [hu]
    have key : bor = [] ∨ res.noRef → Calls P f cargs w fun e w' => ∃ v, e = .returned v ∧ RV (s.ctx E w' η) res v ∧ Rel E s a w' η := fun hbor =>
      (hfd w (fun b => (s.ctx E w η).O b ∧ ¬ Bor η bor b) _ (fun b hb => hOs b hb.1) (args_sound hr hargs hall) hgl).mono fun e' w' ⟨v, he, hv, hg⟩ => by
        refine ⟨v, he, ?_, hr.grow hg⟩
        rcases hbor with hbor | hbor
        · subst hbor
          have hO : (fun b => (s.ctx E w η).O b ∧ ¬ Bor η [] b) = (s.ctx E w' η).O := by
            funext b
            simp [Bor, FSt.ctx]
          rw [hO] at hv
          exact RV_ofD (c := s.ctx E w' η) rfl res v hv
        · exact RV_noRef res v hbor hv
    rcases hbor with hbor | hbor | hff
    · exact key (.inl hbor)
    · exact key (.inr hbor)
    · refine (hff.2 w (fun b => (s.ctx E w η).O b ∧ ¬ Bor η bor b) _ (fun b hb => hOs b hb.1) (args_sound hr hargs hall) hgl).mono fun e' w' ⟨v, he, hv, hg⟩ => ⟨v, he, ?_, hr.grow hg⟩
      exact RV_ofD (c := s.ctx E w' η) rfl res v (RV_keep (c := dctx w' fun b => b < w.heap.size) (c' := dctx w' (s.ctx E w' η).O) ⟨Nat.le_refl _, fun _ _ _ _ => rfl, fun b _ hb => hOs b hb, rfl, by simp [dctx], by simp [dctx]⟩ _ _ hv)
  · obtain ⟨hr2, hO⟩ := hr.freeze hz hza
    refine (hfd w (fun b => (s.ctx E w η).O b ∧ ¬ Bor η bor b) _ (fun b hb => hOs b hb.1) (args_sound hr hargs hall) hgl).mono fun e' w' ⟨v, he, hv, hg⟩ => ⟨v, he, ?_, hr2.grow hg⟩
    have hO' : (fun b => (s.ctx E w η).O b ∧ ¬ Bor η bor b) = ((s.upd fz).ctx E w' η).O := by
      funext b
      exact (propext (hO b)).symm
    rw [hO'] at hv
    exact RV_ofD (c := (s.upd fz).ctx E w' η) rfl res v hv

end
end Go.AM
