/- Calls of functions that take data and answer data; the judgement of an operation, guard and all. -/
import Derived.Test.YtnikgmdpnlfbiaaAmIsound4
namespace Go.AM
open Go.RowKit

mutual
/-- Nothing of the call's own, nothing unknown. -/
def V.pure : V → Prop
  | .bot | .obj _ _ | .ptr _ _ _ _ | .opt _ _ => False
  | .func _ a b => pures a ∧ pures b
  | .agg cs => pures cs
  | .tup vs => pures vs
  | _ => True
def pures : List V → Prop
  | [] => True
  | x :: r => x.pure ∧ pures r
end
mutual
/-- No memory is named. -/
def V.noRef : V → Prop
  | .bool _ | .int _ _ | .str _ | .nilS | .nilP | .nilF => True
  | .agg cs => noRefs cs
  | .tup vs => noRefs vs
  | _ => False
def noRefs : List V → Prop
  | [] => True
  | x :: r => x.noRef ∧ noRefs r
end

mutual
theorem RV_pure {c : Ctx} : ∀ (x : V) (v : Value), x.pure → RV c x v → RV { c with data := true } x v
  | .bot, v, hp, h => by simp [V.pure] at hp
  | .bool b, v, hp, h => by simpa only [RV] using h
  | .int k n, v, hp, h => by simpa only [RV] using h
  | .str s, v, hp, h => by simpa only [RV] using h
  | .nilS, v, hp, h => by simpa only [RV] using h
  | .sl e xs, v, hp, h => by simpa only [RV] using h
  | .obj id n, v, hp, h => by simp [V.pure] at hp
  | .ptr id n i o, v, hp, h => by simp [V.pure] at hp
  | .tptr e xs i o, v, hp, h => by simpa only [RV] using h
  | .nilP, v, hp, h => by simpa only [RV] using h
  | .func fn f cs, v, hp, h => by
    simp only [RV, V.pure] at h hp ⊢
    obtain ⟨f1, c1, hv, h1, h2⟩ := h
    exact ⟨f1, c1, hv, RVl_pure _ _ hp.1 h1, RVl_pure _ _ hp.2 h2⟩
  | .nilF, v, hp, h => by simpa only [RV] using h
  | .agg cs, v, hp, h => by
    simp only [RV, V.pure] at h hp ⊢
    obtain ⟨cv, hv, h1, h2⟩ := h
    exact ⟨cv, hv, RVl_pure _ _ hp h1, h2⟩
  | .tup vs, v, hp, h => by
    simp only [RV, V.pure] at h hp ⊢
    obtain ⟨cv, hv, h1⟩ := h
    exact ⟨cv, hv, RVl_pure _ _ hp h1⟩
  | .opt g x, v, hp, h => by simp [V.pure] at hp
theorem RVl_pure {c : Ctx} : ∀ (xs : List V) (us : List Value), pures xs → RVl c xs us → RVl { c with data := true } xs us
  | [], us, hp, h => by simpa only [RVl] using h
  | x :: xs, us, hp, h => by
    simp only [RVl, pures] at h hp ⊢
    obtain ⟨u, r, hu, h1, h2⟩ := h
    exact ⟨u, r, hu, RV_pure x u hp.1 h1, RVl_pure xs r hp.2 h2⟩
end

mutual
theorem RV_noRef {c c' : Ctx} : ∀ (x : V) (v : Value), x.noRef → RV c x v → RV c' x v
  | .bot, v, hp, h => by simp [V.noRef] at hp
  | .bool b, v, hp, h => by simpa only [RV] using h
  | .int k n, v, hp, h => by simpa only [RV] using h
  | .str s, v, hp, h => by simpa only [RV] using h
  | .nilS, v, hp, h => by simpa only [RV] using h
  | .sl e xs, v, hp, h => by simp [V.noRef] at hp
  | .obj id n, v, hp, h => by simp [V.noRef] at hp
  | .ptr id n i o, v, hp, h => by simp [V.noRef] at hp
  | .tptr e xs i o, v, hp, h => by simp [V.noRef] at hp
  | .nilP, v, hp, h => by simpa only [RV] using h
  | .func fn f cs, v, hp, h => by simp [V.noRef] at hp
  | .nilF, v, hp, h => by simpa only [RV] using h
  | .agg cs, v, hp, h => by
    simp only [RV, V.noRef] at h hp ⊢
    obtain ⟨cv, hv, h1, h2⟩ := h
    exact ⟨cv, hv, RVl_noRef _ _ hp h1, h2⟩
  | .tup vs, v, hp, h => by
    simp only [RV, V.noRef] at h hp ⊢
    obtain ⟨cv, hv, h1⟩ := h
    exact ⟨cv, hv, RVl_noRef _ _ hp h1⟩
  | .opt g x, v, hp, h => by simp [V.noRef] at hp
theorem RVl_noRef {c c' : Ctx} : ∀ (xs : List V) (us : List Value), noRefs xs → RVl c xs us → RVl c' xs us
  | [], us, hp, h => by simpa only [RVl] using h
  | x :: xs, us, hp, h => by
    simp only [RVl, noRefs] at h hp ⊢
    obtain ⟨u, r, hu, h1, h2⟩ := h
    exact ⟨u, r, hu, RV_noRef x u hp.1 h1, RVl_noRef xs r hp.2 h2⟩
end

def dctx (w : World) (O : Nat → Prop) : Ctx := ⟨w, O, fun _ => none, fun _ => .nilFunc, fun _ => False, true⟩

theorem RV_dctx {c : Ctx} (x : V) (v : Value) (h : RV { c with data := true } x v) : RV (dctx c.w c.O) x v :=
  RV_keep (c := { c with data := true }) (c' := dctx c.w c.O) ⟨Nat.le_refl _, fun _ _ _ => rfl, fun _ _ h => h, rfl, by simp, by simp⟩ x v h

theorem RV_ofD {c : Ctx} (hc : c.data = false) (x : V) (v : Value) (h : RV (dctx c.w c.O) x v) : RV c x v := by
  have := RV_keep (c := dctx c.w c.O) (c' := { c with data := true }) ⟨Nat.le_refl _, fun _ _ _ => rfl, fun _ _ h => h, rfl, by simp [dctx], by simp [dctx]⟩ x v h
  have h2 := RV_data (c := c) x v this
  have : ({ c with data := false } : Ctx) = c := by cases c; simp_all
  rwa [this] at h2

/-- THE CONTRACT of a function that takes data and answers data: what it answers, in whatever memory; what there was stays as it was. -/
def FnD (P : Program) (f : FuncId) (args : List V) (res : V) : Prop :=
  (∃ fn, P.funcs[f]? = some fn ∧ fn.body.isSome = true ∧ (fn.name == "runtime.NumGoroutine") = false) ∧
  ∀ (w : World) (O : Nat → Prop) (cargs : Array Value), (∀ b, O b → b < w.heap.size) → RVl (dctx w O) args cargs.toList →
    Calls P f cargs w fun e w' => ∃ v, e = .returned v ∧ RV (dctx w' O) res v ∧ w.grownBy w' none

mutual
/-- What a call is handed, as data. -/
def argLe (hp : Heap) (bor : List Nat) : V → V → Prop
  | .nilS, .sl _ ys => ys = []
  | .obj id n, .sl e ys => id ∈ bor ∧ ∃ ob, hp id = some ob ∧ n = ob.xs.length ∧ e = ob.e ∧ ob.xs = ys ∧ pures ys
  | .agg xs, .agg ys => argsLe hp bor xs ys
  | .opt g x, y => g = true ∧ argLe hp bor x y
  | x, y => x = y ∧ x.pure
def argsLe (hp : Heap) (bor : List Nat) : List V → List V → Prop
  | [], ys => ys = []
  | x :: xs, ys => ∃ y r, ys = y :: r ∧ argLe hp bor x y ∧ argsLe hp bor xs r
end

section
variable {P : Program} {E : Entry} {s : FSt} {a : Act} {w : World} {η : Nat → Value} {o : Oper}

/-- The blocks of what is lent. -/
def Bor (η : Nat → Value) (bor : List Nat) (b : Nat) : Prop := ∃ id ∈ bor, (η id).ownBlock = some b

theorem lend {bor : List Nat} : Keeps ({ s.ctx E w η with data := true }) (dctx w fun b => (s.ctx E w η).O b ∧ ¬ Bor η bor b) :=
  ⟨Nat.le_refl _, fun _ _ _ => rfl, fun _ _ h => h.1, rfl, by simp, by simp⟩

theorem arg_plain {bor : List Nat} (x y : V) (v : Value) (h : x = y ∧ x.pure) (hx : RV (s.ctx E w η) x v) : RV (dctx w fun b => (s.ctx E w η).O b ∧ ¬ Bor η bor b) y v := by
  obtain ⟨rfl, hp⟩ := h
  exact RV_keep lend _ _ (RV_pure x v hp hx)

mutual
theorem argLe_sound (hr : Rel E s a w η) {bor : List Nat} : ∀ (x y : V) (v : Value), argLe s.hp bor x y → RV (s.ctx E w η) x v → RV (dctx w fun b => (s.ctx E w η).O b ∧ ¬ Bor η bor b) y v
  | .nilS, y, v, h, hx => by
    cases y with
    | sl e ys =>
      simp only [argLe] at h
      subst h
      simp only [RV] at hx ⊢
      exact ⟨none, 0, [], by simpa using hx, by simp, by simp, by simp [RVl], by simp, by simp [flat], .inl trivial⟩
    | _ => exact arg_plain _ _ v (by simpa only [argLe] using h) hx
  | .obj id n, y, v, h, hx => by
    cases y with
    | sl e ys =>
      simp only [argLe] at h
      obtain ⟨hb, ob, hid, hn, rfl, rfl, hp⟩ := h
      obtain ⟨hpos, hkn, hlen, us, r1, r2, r3, r4⟩ := laid_row hr hid
      simp only [RV] at hx ⊢
      obtain ⟨_, _, _, hx⟩ := hx
      simp only [FSt.ctx, hid] at hx
      have hη := hx.2 hn
      have r1' := RVl_keep (lend (bor := bor)) _ _ (RVl_pure _ _ hp r1)
      have hkro : ∀ g, (η id).ownBlock = some g → ¬ ((s.ctx E w η).O g ∧ ¬ Bor η bor g) := fun g hg h => h.2 ⟨id, hb, hg⟩
      rcases r4.2 with ⟨h3, h4⟩ | ⟨g, cp, cur, h3, _, hg, hnc, _⟩
      · have hxs : ob.xs = [] := List.eq_nil_of_length_eq_zero h4
        exact ⟨none, 0, us, by rw [hη, h3, hxs]; rfl, by simp [hxs], by simp [hxs], r1', r2, r3, .inl hxs⟩
      · exact ⟨some ⟨g, 0, none⟩, cp, us, by rw [hη, h3], hnc, hlen, r1', r2, r3, .inr ⟨g, 0, rfl, hkro g (by rw [h3]; rfl), (Array.getElem?_eq_some_iff.1 hg).1, row_range r4 (by rw [h3]; rfl)⟩⟩
    | _ => exact arg_plain _ _ v (by simpa only [argLe] using h) hx
  | .agg xs, y, v, h, hx => by
    cases y with
    | agg ys =>
      simp only [argLe] at h
      simp only [RV] at hx ⊢
      obtain ⟨cv, hv, h1, h2⟩ := hx
      exact ⟨cv, hv, argsLe_sound hr xs ys _ h h1, h2⟩
    | _ => exact arg_plain _ _ v (by simpa only [argLe] using h) hx
  | .bot, y, v, h, hx => arg_plain _ _ v (by cases y <;> simpa only [argLe] using h) hx
  | .bool b, y, v, h, hx => arg_plain _ _ v (by cases y <;> simpa only [argLe] using h) hx
  | .int k m, y, v, h, hx => arg_plain _ _ v (by cases y <;> simpa only [argLe] using h) hx
  | .str b, y, v, h, hx => arg_plain _ _ v (by cases y <;> simpa only [argLe] using h) hx
  | .sl e xs, y, v, h, hx => arg_plain _ _ v (by cases y <;> simpa only [argLe] using h) hx
  | .ptr _ _ _ _, y, v, h, hx => arg_plain _ _ v (by cases y <;> simpa only [argLe] using h) hx
  | .tptr _ _ _ _, y, v, h, hx => arg_plain _ _ v (by cases y <;> simpa only [argLe] using h) hx
  | .nilP, y, v, h, hx => arg_plain _ _ v (by cases y <;> simpa only [argLe] using h) hx
  | .func _ _ _, y, v, h, hx => arg_plain _ _ v (by cases y <;> simpa only [argLe] using h) hx
  | .nilF, y, v, h, hx => arg_plain _ _ v (by cases y <;> simpa only [argLe] using h) hx
  | .tup _, y, v, h, hx => arg_plain _ _ v (by cases y <;> simpa only [argLe] using h) hx
  | .opt g x, y, v, h, hx => by
    have h : g = true ∧ argLe s.hp bor x y := by cases y <;> simpa only [argLe] using h
    simp only [RV] at hx
    exact argLe_sound hr x y v h.2 (hx.2 h.1)
theorem argsLe_sound (hr : Rel E s a w η) {bor : List Nat} : ∀ (xs ys : List V) (us : List Value), argsLe s.hp bor xs ys → RVl (s.ctx E w η) xs us → RVl (dctx w fun b => (s.ctx E w η).O b ∧ ¬ Bor η bor b) ys us
  | [], ys, us, h, hx => by
    simp only [argsLe, RVl] at h hx
    subst h
    simpa only [RVl] using hx
  | x :: xs, ys, us, h, hx => by
    simp only [argsLe, RVl] at h hx
    obtain ⟨y, r, rfl, h1, h2⟩ := h
    obtain ⟨u, q, rfl, g1, g2⟩ := hx
    simp only [RVl]
    exact ⟨u, q, rfl, argLe_sound hr x y u h1 g1, argsLe_sound hr xs r q h2 g2⟩
end

/-- The call of such a function. -/
structure CallJ (P : Program) (o : Oper) (ρ : Operand → V) (hp : Heap) (e : Eff) : Prop where
  ex : ∃ fo args tys f first caps args0 res bor, o.op = .call { callee := .value fo, args := args, argTypes := tys } ∧ ρ fo = .func (.func f) first caps ∧ FnD P f args0 res ∧
    argsLe hp bor (first ++ args.toList.map ρ ++ caps) args0 ∧ (bor = [] ∨ res.noRef) ∧ res.pure ∧ e = ⟨res, [], bor⟩

theorem call_sound (hr : Rel E s a w η) {e : Eff} (h : CallJ P o s.ev s.hp e) (K : Act → World → Prop) (Q : Exit → Act → World → Prop) (hK : ∀ a' w' η', Rel E (s.app o.dst e) a' w' η' → K a' w') : o.wp P a w K Q := by
  obtain ⟨fo, args, tys, f, first, caps, args0, res, bor, ho, hf, ⟨⟨fn, hfn, hbody, hname⟩, hfd⟩, hargs, hbor, hpure, rfl⟩ := h.ex
  have hfv := ev_sound hr fo
  rw [hf] at hfv
  simp only [RV] at hfv
  obtain ⟨f1, c1, hfv, hf1, hc1⟩ := hfv
  have hav := evs_sound hr args.toList
  have hall : RVl (s.ctx E w η) (first ++ args.toList.map s.ev ++ caps) ((f1 ++ args.map a.eval ++ c1).toList) := by
    have := RVl_append (RVl_append hf1 hav) hc1
    simpa using this
  have hrun : (execOp a.eval o).run P w = .ok (.enter f (f1 ++ args.map a.eval ++ c1)) w := by
    unfold execOp
    have hb : ¬ fn.body = none := fun h => by simp [h] at hbody
    have hn : ¬ fn.name = "runtime.NumGoroutine" := by simpa using hname
    simp [ho, hfv, resolve, Deferred.ofValue, invoke, callFunc, hfn, hn, hb]
  unfold Oper.wp
  rw [hrun]
  simp only [Oper.upon]
  refine (hfd w (fun b => (s.ctx E w η).O b ∧ ¬ Bor η bor b) _ (fun b hb => ?_) (argsLe_sound hr _ _ _ hargs hall)).mono ?_
  · rcases hb.1 with hb | ⟨id, ob, hid, _, hb⟩
    · exact Nat.lt_of_lt_of_le (E.hb b hb).1 hr.since.size
    · obtain ⟨_, _, _, us, _, _, _, r4⟩ := laid_row hr hid
      exact (r4.lt b hb).2
  · rintro e' w' ⟨v, rfl, hv, hg⟩
    have hr' := hr.grow hg
    refine hK _ w' η ?_
    rw [FSt.app_nil]
    refine hr'.put o.dst ?_
    rcases hbor with hbor | hbor
    · subst hbor
      have hO : (fun b => (s.ctx E w η).O b ∧ ¬ Bor η [] b) = (s.ctx E w' η).O := by
        funext b
        simp [Bor, FSt.ctx]
      rw [hO] at hv
      exact RV_ofD (c := s.ctx E w' η) rfl res v hv
    · exact RV_noRef res v hbor hv

/-! ## the judgement -/

def V.unw (g : Bool) : V → V
  | .opt g' x => if (!g || g') = true then x else .opt g' x
  | x => x

def FSt.unw (g : Bool) (s : FSt) : FSt := { s with sl := fun t => (s.sl t).unw g }

theorem RV_unw {c : Ctx} {x : V} {v : Value} (h : RV c x v) : RV c (x.unw true) v := by
  cases x with
  | opt g' x =>
    simp only [V.unw]
    split
    · rename_i hg
      simp only [RV] at h
      exact h.2 (by simpa using hg)
    · exact h
  | _ => simpa only [V.unw] using h

theorem Rel.unw (hr : Rel E s a w η) : Rel E (s.unw true) a w η := ⟨fun t => RV_unw (hr.slots t), hr.laid, hr.since, hr.fresh, hr.tmps, hr.defers⟩

/-- An operation that is wanted. -/
def J0 (P : Program) (fid : Nat) (o : Oper) (s : FSt) (e : Eff) : Prop :=
  (∃ t, istep P s.ev s.hp fid o = some t ∧ t.side ∧ t.e = e ∧ (fid ∈ e.ids → ¬ s.kn fid)) ∨ CallJ P o s.ev s.hp e

def J (P : Program) (ops : Array Oper) (base : Nat) (i : Nat) (o : Oper) (s : FSt) (e : Eff) : Prop :=
  match o.guard with
  | none => J0 P (base + i) o s e
  | some (j, want) => ∃ d t, (ops[j]?).bind (·.dst) = some d ∧ d < s.N ∧ s.sl d = .bool t ∧
      ((t = want ∧ J0 P (base + i) o s e) ∨ (t = !want ∧ e = ⟨.tup [], [], []⟩) ∨
       (∃ e0, ((t == want) = true → J0 P (base + i) o (s.unw (t == want)) e0) ∧ e0.upd = [] ∧ e = ⟨.opt (t == want) e0.val, [], e0.rd⟩))

theorem J0_sound (hr : Rel E s a w η) {fid : Nat} {e : Eff} (h : J0 P fid o s e) (K : Act → World → Prop) (Q : Exit → Act → World → Prop) (hK : ∀ a' w' η', Rel E (s.app o.dst e) a' w' η' → K a' w') : o.wp P a w K Q := by
  rcases h with ⟨t, ht, hs, rfl, hf⟩ | h
  · obtain ⟨r, w', η', hrun, h⟩ := istep_sound hr ht hs hf
    unfold Oper.wp
    rw [hrun]
    rcases h with ⟨v, rfl, h⟩ | ⟨rfl, h⟩
    · exact hK _ _ _ h
    · exact hK _ _ _ h
  · exact call_sound hr h K Q hK

theorem wanted_of (hr : Rel E s a w η) {ops : Array Oper} {j d : Nat} {want t : Bool} (hg : o.guard = some (j, want)) (hd : (ops[j]?).bind (·.dst) = some d) (hN : d < s.N) (ht : s.sl d = .bool t) : Region.wanted o (yielded ops a.tmps) = (t == want) := by
  have h := hr.slots d
  rw [ht] at h
  simp only [RV] at h
  have hlt : d < a.tmps.size := by rw [hr.tmps]; exact hN
  have h1 : a.tmps[d]? = some (.bool t) := by
    rw [Array.getD_eq_getD_getElem?] at h
    rw [Array.getElem?_eq_getElem hlt] at h ⊢
    simpa using h
  unfold Region.wanted yielded
  simp only [hg, hd, Option.bind_some, h1]
  cases t <;> cases want <;> rfl

theorem istep_ρ {ρ ρ' : Operand → V} {hp : Heap} {fid : Nat} (h : ∀ x ∈ o.op.operands, ρ' x = ρ x) : istep P ρ' hp fid o = istep P ρ hp fid o := by
  obtain ⟨dst, op, type, pos, after, guard⟩ := o
  have arr : ∀ l : Array Operand, (∀ x ∈ l, ρ' x = ρ x) → l.toList.map ρ' = l.toList.map ρ := fun l hl => List.map_congr_left fun x hx => hl x (by simpa using hx)
  cases op <;> simp only [Op.operands] at h <;> simp only [istep]
  case build T ps =>
    have : (ps.toList.map fun p => (p.1, ρ' p.2)) = ps.toList.map fun p => (p.1, ρ p.2) := List.map_congr_left fun p hp => by
      rw [h p.2 (by cases p; simpa using ⟨_, Array.mem_def.2 hp⟩)]
    rw [this]
  case buildSlice T len ps =>
    have : (ps.toList.map fun p => (p.1, ρ' p.2)) = ps.toList.map fun p => (p.1, ρ p.2) := List.map_congr_left fun p hp => by
      rw [h p.2 (by cases p; simpa using ⟨_, Array.mem_def.2 hp⟩)]
    rw [this]
  case makeFunc fn f c => rw [arr f (fun x hx => h x (by simp [hx])), arr c (fun x hx => h x (by simp [hx]))]
  case slice T x lo hi mx =>
    cases mx with
    | some _ => rfl
    | none =>
      have h1 := h x (by simp)
      have h2 : lo.map ρ' = lo.map ρ := by cases lo with | none => rfl | some y => simp [h y (by simp)]
      have h3 : hi.map ρ' = hi.map ρ := by cases hi with | none => rfl | some y => simp [h y (by simp)]
      simp only [h1, h2, h3]
  case call c =>
    obtain ⟨callee, args, tys⟩ := c
    cases callee with
    | builtin b =>
      have := arr args (fun x hx => h x (by simp [Call.operands, hx]))
      simp only [this]
    | value f => rfl
    | invoke r m => rfl
  all_goals simp_all

theorem istep_hp {ρ : Operand → V} {hp hp' : Heap} {fid : Nat} {t : Stp} (ht : istep P ρ hp fid o = some t) (h : ∀ i ∈ t.e.rd ++ t.e.ids, hp' i = hp i) : istep P ρ hp' fid o = some t := by
  obtain ⟨dst, op, type, pos, after, guard⟩ := o
  cases op <;> simp only [istep, reduceCtorEq] at ht ⊢
  case load T x =>
    obtain ⟨q, hq, rfl⟩ := Option.map_eq_some_iff.1 ht
    refine Option.map_eq_some_iff.2 ⟨q, ?_, rfl⟩
    unfold ldS at hq ⊢
    split at hq
    · rename_i id n i o' hx
      split at hq
      · rename_i ob hid
        obtain ⟨v, hv, rfl⟩ := Option.map_eq_some_iff.1 hq
        have := h id (by simp)
        simp only [this, hid, hv]; rfl
      · cases hq
    · rename_i hx; exact hq
    · cases hq
  case store T p x =>
    obtain ⟨q, hq, rfl⟩ := Option.map_eq_some_iff.1 ht
    refine Option.map_eq_some_iff.2 ⟨q, ?_, rfl⟩
    unfold stS at hq ⊢
    split at hq
    · rename_i id n i o' hx
      split at hq
      · rename_i ob hid
        obtain ⟨v, hv, rfl⟩ := Option.map_eq_some_iff.1 hq
        have := h id (by simp)
        simp only [this, hid, hv]; rfl
      · cases hq
    · cases hq
  case nilCheck x =>
    split at ht
    · rename_i id n i o' hx
      split at ht
      · rename_i ob hid
        cases ht
        have := h id (by simp)
        simp only [this, hid]
      · cases ht
    · rename_i hx; exact ht
    · cases ht
  case fieldAddr T x f =>
    split at ht
    · rename_i off ft id n i o' hf hx
      split at ht
      · rename_i ob hid
        cases ht
        have := h id (by simp)
        simp only [this, hid]
      · cases ht
    · rename_i off ft e xs i o' hf hx
      exact ht
    · cases ht
  case indexAddr T x i =>
    unfold idxS at ht ⊢
    split at ht
    · rename_i h1
      split at ht
      · rename_i h2
        split at ht
        · rename_i h3; exact ht
        · rename_i id n h3
          split at ht
          · rename_i ob hid
            cases ht
            have := h id (by simp)
            simp only [this, hid]
          · cases ht
        · cases ht
      · cases ht
    · cases ht
  case slice T x lo hi mx =>
    cases mx with
    | some _ => simp at ht
    | none =>
      simp only at ht ⊢
      unfold sliceS at ht ⊢
      split at ht
      · rename_i h3; exact ht
      · rename_i h3; exact ht
      · rename_i h3; exact ht
      · rename_i id n h3
        split at ht
        · rename_i ob hid
          have hh : id ∈ t.e.rd := by
            split at ht
            · cases ht; simp
            · cases ht
          have := h id (by simp [hh])
          simp only [this, hid]; exact ht
        · cases ht
      · cases ht
  case call c =>
    obtain ⟨callee, args, tys⟩ := c
    cases callee with
    | builtin b =>
      simp only at ht ⊢
      split at ht
      · rename_i x T ha hT
        obtain ⟨q, hq, rfl⟩ := Option.map_eq_some_iff.1 ht
        refine Option.map_eq_some_iff.2 ⟨q, ?_, rfl⟩
        unfold lenV at hq ⊢
        split at hq
        · exact hq
        · exact hq
        · exact hq
        · rename_i id n
          split at hq
          · rename_i ob hid
            cases hq
            have := h id (by simp)
            simp only [this, hid]
          · cases hq
        · cases hq
      · rename_i v1 v2 T T' ha hT
        split at ht
        · rename_i hTT
          subst hTT
          simp only [if_true]
          unfold appS at ht ⊢
          split at ht
          · cases ht
          · rename_i E' hE
            split at ht
            · rename_i z ys rd p hz hsrc
              have hrd : ∀ i ∈ rd, i ∈ t.e.rd := by
                split at ht
                · cases ht; exact fun i hi => hi
                · split at ht
                  · cases ht; exact fun i hi => by simp [hi]
                  · cases ht
                · cases ht
              have hs2 : srcOf hp' (P.cellsOf E') v2 = some (ys, rd, p) := by
                unfold srcOf at hsrc ⊢
                split at hsrc
                · exact hsrc
                · exact hsrc
                · rename_i id n
                  split at hsrc
                  · rename_i ob hid
                    cases hsrc
                    have := h id (by simp [hrd id (by simp)])
                    simp only [this, hid]
                  · cases hsrc
                · cases hsrc
              simp only [hz, hs2]
              split at ht
              · exact ht
              · rename_i id n
                split at ht
                · rename_i ob hid
                  cases ht
                  have := h id (by simp)
                  simp only [this, hid]
                · cases ht
              · cases ht
            · cases ht
        · cases ht
      · rename_i h1; exact ht
      · rename_i h1; exact ht
      · cases ht
    | value f => simp at ht
    | invoke r m => simp at ht
  all_goals exact ht

mutual
theorem argLe_hp {hp hp' : Heap} {bor : List Nat} (h : ∀ i ∈ bor, hp' i = hp i) : ∀ (x y : V), argLe hp bor x y → argLe hp' bor x y
  | .agg xs, y, hx => by
    cases y <;> simp only [argLe] at hx ⊢ <;> first
      | exact hx
      | exact argsLe_hp h xs _ hx
  | .obj id n, y, hx => by
    cases y <;> simp only [argLe] at hx ⊢ <;> first
      | exact hx
      | (obtain ⟨hb, ob, h1, h2⟩ := hx; exact ⟨hb, ob, by rw [h _ hb]; exact h1, h2⟩)
  | .nilS, y, hx => by cases y <;> simpa only [argLe] using hx
  | .bot, y, hx => by cases y <;> simpa only [argLe] using hx
  | .bool _, y, hx => by cases y <;> simpa only [argLe] using hx
  | .int _ _, y, hx => by cases y <;> simpa only [argLe] using hx
  | .str _, y, hx => by cases y <;> simpa only [argLe] using hx
  | .sl _ _, y, hx => by cases y <;> simpa only [argLe] using hx
  | .ptr _ _ _ _, y, hx => by cases y <;> simpa only [argLe] using hx
  | .tptr _ _ _ _, y, hx => by cases y <;> simpa only [argLe] using hx
  | .nilP, y, hx => by cases y <;> simpa only [argLe] using hx
  | .func _ _ _, y, hx => by cases y <;> simpa only [argLe] using hx
  | .nilF, y, hx => by cases y <;> simpa only [argLe] using hx
  | .tup _, y, hx => by cases y <;> simpa only [argLe] using hx
  | .opt g x, y, hx => by
    have hx : g = true ∧ argLe hp bor x y := by cases y <;> simpa only [argLe] using hx
    have := argLe_hp h x y hx.2
    cases y <;> exact (by simp only [argLe]; exact ⟨hx.1, this⟩)
theorem argsLe_hp {hp hp' : Heap} {bor : List Nat} (h : ∀ i ∈ bor, hp' i = hp i) : ∀ (xs ys : List V), argsLe hp bor xs ys → argsLe hp' bor xs ys
  | [], ys, hx => by simpa only [argsLe] using hx
  | z :: zs, ys, hx => by
    simp only [argsLe] at hx ⊢
    obtain ⟨y, r, rfl, h1, h2⟩ := hx
    exact ⟨y, r, rfl, argLe_hp h z y h1, argsLe_hp h zs r h2⟩
end

theorem J0_loc {fid : Nat} {s s' : FSt} {e : Eff} (h : J0 P fid o s e) (hρ : ∀ x ∈ o.op.operands, s'.ev x = s.ev x) (hhp : ∀ i ∈ e.rd ++ e.ids, s'.hp i = s.hp i) (hkn : ∀ i ∈ e.rd ++ e.ids, s'.kn i ↔ s.kn i) : J0 P fid o s' e := by
  rcases h with ⟨t, ht, hs, rfl, hf⟩ | h
  · refine .inl ⟨t, ?_, hs, rfl, fun hi hk => hf hi ((hkn _ (by simp [hi])).1 hk)⟩
    rw [istep_ρ (ρ := s.ev) hρ]
    exact istep_hp ht hhp
  · refine .inr ⟨?_⟩
    obtain ⟨fo, args, tys, f, first, caps, args0, res, bor, ho, hf, hfd, hargs, hbor, hpure, rfl⟩ := h.ex
    refine ⟨fo, args, tys, f, first, caps, args0, res, bor, ho, ?_, hfd, ?_, hbor, hpure, rfl⟩
    · rw [hρ fo (by simp [ho, Op.operands, Call.operands])]; exact hf
    · have : args.toList.map s'.ev = args.toList.map s.ev := List.map_congr_left fun x hx => hρ x (by simp [ho, Op.operands, Call.operands]; exact .inr (by simpa using hx))
      rw [this]
      exact argsLe_hp (fun i hi => hhp i (by simp [hi])) _ _ hargs

theorem ev_same {ops : Array Oper} {s s' : FSt} (h : ∀ t ∈ o.looksAt ops, s'.sl t = s.sl t) : ∀ x ∈ o.op.operands, s'.ev x = s.ev x := by
  intro x hx
  cases x with
  | tmp t => exact h t (List.mem_append_left _ (List.mem_filterMap.2 ⟨.tmp t, by simpa using hx, rfl⟩))
  | _ => rfl

theorem J_loc {ops : Array Oper} {base i : Nat} {s s' : FSt} {e : Eff} (h : J P ops base i o s e) (hsame : Same (o.looksAt ops) (e.rd ++ e.ids) s s') : J P ops base i o s' e := by
  have hev := ev_same hsame.sl
  unfold J at h ⊢
  cases hg : o.guard with
  | none => rw [hg] at h; exact J0_loc h hev hsame.hp hsame.kn
  | some jw =>
    obtain ⟨j, want⟩ := jw
    rw [hg] at h
    obtain ⟨d, t, hd, hN, ht, h⟩ := h
    have hdl : d ∈ o.looksAt ops := List.mem_append_right _ (by simp [hg, hd])
    refine ⟨d, t, hd, by rw [hsame.N]; exact hN, by rw [hsame.sl d hdl]; exact ht, ?_⟩
    rcases h with ⟨h1, h2⟩ | h | ⟨e0, h1, h2, h3⟩
    · exact .inl ⟨h1, J0_loc h2 hev hsame.hp hsame.kn⟩
    · exact .inr (.inl h)
    · subst h3
      refine .inr (.inr ⟨e0, fun hc => J0_loc (h1 hc) (fun x hx => ?_) (fun i hi => ?_) (fun i hi => ?_), h2, rfl⟩)
      · cases x with
        | tmp t' =>
          have := hev _ hx
          simp only [FSt.ev] at this
          simp only [FSt.ev, FSt.unw, this]
        | _ => rfl
      · exact hsame.hp i (by simpa [Eff.ids, h2] using hi)
      · exact hsame.kn i (by simpa [Eff.ids, h2] using hi)

theorem J_law (P : Program) (ops : Array Oper) (E : Entry) (base : Nat) : LawJ P ops E (J P ops base) := by
  constructor
  · intro i o s e h a w η hr K Q hK
    unfold J at h
    unfold stepK
    cases hg : o.guard with
    | none =>
      rw [hg] at h
      have : Region.wanted o (yielded ops a.tmps) = true := by simp [Region.wanted, hg]
      rw [if_pos this]
      exact J0_sound hr h K Q hK
    | some jw =>
      obtain ⟨j, want⟩ := jw
      rw [hg] at h
      obtain ⟨d, t, hd, hN, ht, h⟩ := h
      have hw := wanted_of hr hg hd hN ht
      rw [hw]
      rcases h with ⟨h1, h2⟩ | ⟨h1, h2⟩ | ⟨e0, h1, h2, h3⟩
      · subst h1
        simp only [BEq.rfl, if_true]
        exact J0_sound hr h2 K Q hK
      · subst h1; subst h2
        have : ((!want) == want) = false := by cases want <;> rfl
        rw [this]
        simp only [Bool.false_eq_true, if_false]
        refine hK _ w η ?_
        rw [FSt.app_nil]
        exact hr.put o.dst (by simp only [RV]; exact ⟨#[], rfl, by simp [RVl]⟩)
      · subst h3
        by_cases hc : (t == want) = true
        · rw [if_pos hc]
          have h1' := h1 hc
          rw [hc] at h1'
          refine J0_sound hr.unw h1' K Q fun a' w' η' hr' => hK a' w' η' ?_
          rw [FSt.app_nil]
          have he0 : e0 = ⟨e0.val, [], e0.rd⟩ := by cases e0; simp_all
          rw [he0, FSt.app_nil] at hr'
          have hhp : ((s.unw true).put o.dst e0.val).hp = (s.put o.dst (.opt (t == want) e0.val)).hp := by rw [FSt.put_hp, FSt.put_hp]; rfl
          have hkn : ((s.unw true).put o.dst e0.val).kn = (s.put o.dst (.opt (t == want) e0.val)).kn := by rw [FSt.put_kn, FSt.put_kn]; rfl
          have hNN : ((s.unw true).put o.dst e0.val).N = (s.put o.dst (.opt (t == want) e0.val)).N := by rw [FSt.put_N, FSt.put_N]; rfl
          have hctx : ((s.unw true).put o.dst e0.val).ctx E w' η' = (s.put o.dst (.opt (t == want) e0.val)).ctx E w' η' := by
            unfold FSt.ctx; rw [hhp, hkn]
          refine ⟨fun t' => ?_, by rw [← hctx]; exact hr'.laid, hr'.since, by rw [← hhp]; exact hr'.fresh, by rw [← hNN]; exact hr'.tmps, hr'.defers⟩
          have hs := hr'.slots t'
          rw [hctx] at hs
          rw [FSt.put_sl] at hs ⊢
          by_cases hdt : o.dst = some t' ∧ t' < s.N
          · rw [if_pos hdt]
            have hdt' : o.dst = some t' ∧ t' < (s.unw true).N := hdt
            rw [if_pos hdt'] at hs
            simp only [RV]
            exact ⟨rfl, fun _ => hs⟩
          · rw [if_neg hdt]
            have hdt' : ¬ (o.dst = some t' ∧ t' < (s.unw true).N) := hdt
            rw [if_neg hdt'] at hs
            have hs' : RV _ ((s.sl t').unw true) _ := hs
            generalize s.sl t' = X at *
            cases X with
            | opt g' x =>
              simp only [V.unw] at hs'
              split at hs'
              · simp only [RV]
                exact ⟨rfl, fun _ => hs'⟩
              · exact hs'
            | _ => simpa only [V.unw] using hs'
        · rw [if_neg hc]
          refine hK _ w η ?_
          rw [FSt.app_nil]
          exact hr.put o.dst (by simp only [RV]; exact ⟨rfl, fun h => absurd h hc⟩)
  · intro i o s s' e h hsame
    exact J_loc h hsame
end
end Go.AM
