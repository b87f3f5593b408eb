/- The judgement of an operation, guard and all. -/
import Derived.Test.YtdeionjkcmpnpaaDoorAmRef
set_option linter.unusedSimpArgs false
set_option linter.unusedVariables false
namespace Go.AM
open Go.RowKit

section
variable {P : Program} {E : Entry} {s : FSt} {a : Act} {w : World} {η : Nat → Value} {o : Oper}

/-! ## the judgement -/

def V.unw (g : Bool) : V → V
  | .opt g' x => if (!g || g') = true then x else .opt g' x
  | x => x

def FSt.unw (g : Bool) (s : FSt) : FSt := { s with sl := fun t => (s.sl t).unw g }

theorem RV_unw {c : Ctx} {x : V} {v : Value} (h : RV c x v) : RV c (x.unw true) v := by
  cases x with
  | opt g' x =>
    simp only [V.unw]
    split
    · rename_i hg
      simp only [RV] at h
      exact h.2.1 (by simpa using hg)
    · exact h
  | _ => simpa only [V.unw] using h

theorem Rel.unw (hr : Rel E s a w η) : Rel E (s.unw true) a w η := ⟨fun t => RV_unw (hr.slots t), hr.laid, hr.since, hr.fresh, hr.tmps, ⟨hr.defers.fix, hr.defers.marks⟩, ⟨hr.held.nb, hr.held.at_⟩, hr.glob, hr.ghost⟩


/-- A call: its effect. -/
def CallE (P : Program) (fid : Nat) (o : Oper) (s : FSt) (e : Eff) : Prop := CallJ P o s.ev s.hp s.gl s.nb e ∨ CallR P o s.ev s.hp s.kn s.gl s.nb fid e

theorem callE_run (hr : Rel E s a w η) {fid : Nat} {e : Eff} (h : CallE P fid o s e) : ∃ f cargs, (execOp a.eval o).run P w = .ok (.enter f cargs) w ∧
    Calls P f cargs w fun e' w' => ∃ v η1, e' = .returned v ∧ RV ((s.upd e.upd).ctx E w' η1) e.val v ∧ Rel E (s.upd e.upd) a w' η1 := by
  rcases h with h | h
  · obtain ⟨f, cargs, _, _, h1, h2⟩ := callD_run hr h
    exact ⟨f, cargs, h1, h2.mono fun e' w' ⟨v, q1, q2, q3⟩ => ⟨v, η, q1, q2, q3⟩⟩
  · exact callR_run hr h

/-- An operation that is wanted. -/
def J0 (P : Program) (fid : Nat) (o : Oper) (s : FSt) (e : Eff) : Prop :=
  (∃ t, istep P s.ev s.hp fid o = some t ∧ t.side ∧ t.e = e ∧ (fid ∈ e.ids → ¬ s.kn fid)) ∨ CallE P fid o s e

/-- Whether it is wanted, by what its guard yielded. -/
def guardV (v : V) (want : Bool) : Option Bool :=
  match v with
  | .bool t => some (t == want)
  | .opt g (.bool t) => some (g && (t == want))
  | .tup [] => some false
  | .opt _ (.tup []) => some false
  | _ => none

def J (P : Program) (ops : Array Oper) (base : Nat) (i : Nat) (o : Oper) (s : FSt) (e : Eff) : Prop :=
  match o.guard with
  | none => J0 P (base + 16 * i) o s e
  | some (j, want) => ∃ d g, (ops[j]?).bind (·.dst) = some d ∧ d < s.N ∧ guardV (s.sl d) want = some g ∧
      ((g = true ∧ J0 P (base + 16 * i) o (s.unw true) e) ∨ (g = false ∧ e = ⟨.tup [], [], []⟩) ∨
       (∃ e0, (g = true → J0 P (base + 16 * i) o (s.unw g) e0) ∧ e0.upd = [] ∧ e = ⟨.opt g e0.val, [], e0.rd⟩))

theorem J0_sound (hr : Rel E s a w η) {fid : Nat} {e : Eff} (h : J0 P fid o s e) (K : Act → World → Prop) (Q : Exit → Act → World → Prop) (hK : ∀ a' w' η', Rel E (s.app o.dst e) a' w' η' → K a' w') : o.wp P a w K Q := by
  rcases h with ⟨t, ht, hs, rfl, hf⟩ | h
  · obtain ⟨r, w', η', hrun, h⟩ := istep_sound hr ht hs hf
    unfold Oper.wp
    rw [hrun]
    rcases h with ⟨v, rfl, h⟩ | ⟨rfl, h⟩
    · exact hK _ _ _ h
    · exact hK _ _ _ h
  · obtain ⟨f, cargs, hrun, hc⟩ := callE_run hr h
    unfold Oper.wp
    rw [hrun]
    simp only [Oper.upon]
    refine hc.mono ?_
    rintro e' w' ⟨v, η1, rfl, h1, h2⟩
    refine hK _ w' η1 ?_
    have := h2.put o.dst h1
    rw [← FSt.app_upd s o.dst e.val e.upd e.rd] at this
    exact this

theorem wanted_of (hr : Rel E s a w η) {ops : Array Oper} {j d : Nat} {want g : Bool} (hg : o.guard = some (j, want)) (hd : (ops[j]?).bind (·.dst) = some d) (hN : d < s.N) (ht : guardV (s.sl d) want = some g) : Region.wanted o (yielded ops a.tmps) = g := by
  have h := hr.slots d
  have hlt : d < a.tmps.size := by rw [hr.tmps]; exact hN
  have get : ∀ u : Value, a.tmps.getD d undef = u → a.tmps[d]? = some u := by
    intro u hu
    rw [Array.getD_eq_getD_getElem?, Array.getElem?_eq_getElem hlt] at hu
    rw [Array.getElem?_eq_getElem hlt]
    simpa using hu
  unfold Region.wanted yielded
  simp only [hg, hd, Option.bind_some]
  unfold guardV at ht
  split at ht
  · rename_i t hs
    rw [hs] at h
    simp only [RV] at h
    rw [get _ h]
    cases ht
    cases t <;> cases want <;> rfl
  · rename_i g' t hs
    rw [hs] at h
    simp only [RV] at h
    cases ht
    cases g' with
    | true =>
      rw [get _ (h.2.1 rfl)]
      cases t <;> cases want <;> rfl
    | false =>
      rw [get _ (h.2.2 rfl)]
      simp
  · rename_i hs
    rw [hs] at h
    simp only [RV, RVl] at h
    cases ht
    obtain ⟨vs, hv, hl⟩ := h
    rw [get _ hv, Array.toList_eq_nil_iff.1 hl]
    simp
  · rename_i g' hs
    rw [hs] at h
    simp only [RV, RVl] at h
    cases ht
    cases g' with
    | true =>
      obtain ⟨vs, hv, hl⟩ := h.2.1 rfl
      rw [get _ hv, Array.toList_eq_nil_iff.1 hl]
      simp
    | false =>
      rw [get _ (h.2.2 rfl)]
      simp
  · cases ht

theorem istep_ρ {ρ ρ' : Operand → V} {hp : Heap} {fid : Nat} (h : ∀ x ∈ o.op.operands, ρ' x = ρ x) : istep P ρ' hp fid o = istep P ρ hp fid o := by
  obtain ⟨dst, op, type, pos, after, guard⟩ := o
  have arr : ∀ l : Array Operand, (∀ x ∈ l, ρ' x = ρ x) → l.toList.map ρ' = l.toList.map ρ := fun l hl => List.map_congr_left fun x hx => hl x (by simpa using hx)
  cases op <;> simp only [Op.operands] at h <;> simp only [istep]
  case build T ps =>
    have : (ps.toList.map fun p => (p.1, ρ' p.2)) = ps.toList.map fun p => (p.1, ρ p.2) := List.map_congr_left fun p hp => by
      rw [h p.2 (by cases p; simpa using ⟨_, Array.mem_def.2 hp⟩)]
    rw [this]
  case buildSlice T len ps =>
    have : (ps.toList.map fun p => (p.1, ρ' p.2)) = ps.toList.map fun p => (p.1, ρ p.2) := List.map_congr_left fun p hp => by
      rw [h p.2 (by cases p; simpa using ⟨_, Array.mem_def.2 hp⟩)]
    rw [this]
  case makeMap T r => cases r <;> rfl
  case lookup T x i ok =>
    have h1 := h x (by simp)
    have h2 := h i (by simp)
    cases ok with
    | true => rfl
    | false => simp only [h1, h2]
  case makeFunc fn f c => rw [arr f (fun x hx => h x (by simp [hx])), arr c (fun x hx => h x (by simp [hx]))]
  case slice T x lo hi mx =>
    cases mx with
    | some _ => rfl
    | none =>
      have h1 := h x (by simp)
      have h2 : lo.map ρ' = lo.map ρ := by cases lo with | none => rfl | some y => simp [h y (by simp)]
      have h3 : hi.map ρ' = hi.map ρ := by cases hi with | none => rfl | some y => simp [h y (by simp)]
      simp only [h1, h2, h3]
  case call c =>
    obtain ⟨callee, args, tys⟩ := c
    cases callee with
    | builtin b =>
      have := arr args (fun x hx => h x (by simp [Call.operands, hx]))
      simp only [this]
    | value f => rfl
    | invoke r m => rfl
  all_goals simp_all

theorem srcOf_hp {hp hp' : Heap} {e : Nat} {x : V} {ys : List V} {rd : List Nat} {p : Prop} (hs : srcOf hp e x = some (ys, rd, p)) (h : ∀ i ∈ rd, hp' i = hp i) : srcOf hp' e x = some (ys, rd, p) := by
  unfold srcOf at hs ⊢
  split at hs
  · exact hs
  · exact hs
  · exact hs
  · exact hs
  · rename_i id n
    split at hs
    · rename_i ob hid
      cases hs
      have := h id (by simp)
      simp only [this, hid]
    · cases hs
  · cases hs
theorem istep_hp {ρ : Operand → V} {hp hp' : Heap} {fid : Nat} {t : Stp} (ht : istep P ρ hp fid o = some t) (h : ∀ i ∈ t.e.rd ++ t.e.ids, hp' i = hp i) : istep P ρ hp' fid o = some t := by
  obtain ⟨dst, op, type, pos, after, guard⟩ := o
  cases op <;> simp only [istep, reduceCtorEq] at ht ⊢
  case makeMap T r => cases r <;> exact ht
  case lookup T x i ok =>
    cases ok with
    | true => cases ht
    | false =>
      simp only at ht ⊢
      unfold lookS at ht ⊢
      split at ht
      · rename_i id hx
        split at ht
        · rename_i ob hid
          split at ht
          · rename_i bk K E' hT
            obtain ⟨z, hz, ht'⟩ := Option.bind_eq_some_iff.1 ht
            obtain ⟨v, hv, rfl⟩ := Option.map_eq_some_iff.1 ht'
            have := h id (by simp)
            simp only [this, hid, hT]
            exact ht
          · cases ht
        · cases ht
      · cases ht
  case mapUpdate T x i y =>
    unfold mupdS at ht ⊢
    split at ht
    · rename_i id hx
      split at ht
      · rename_i ob hid
        split at ht
        · rename_i bk K E' hT
          have hh : id ∈ t.e.rd := by
            split at ht
            · cases ht
            · obtain ⟨ys, hv, rfl⟩ := Option.map_eq_some_iff.1 ht
              simp
          have := h id (by simp [hh])
          simp only [this, hid, hT]
          exact ht
        · cases ht
      · cases ht
    · cases ht
  case load T x =>
    obtain ⟨q, hq, rfl⟩ := Option.map_eq_some_iff.1 ht
    refine Option.map_eq_some_iff.2 ⟨q, ?_, rfl⟩
    unfold ldS at hq ⊢
    split at hq
    · rename_i id n i o' hx
      split at hq
      · rename_i ob hid
        obtain ⟨v, hv, rfl⟩ := Option.map_eq_some_iff.1 hq
        have := h id (by simp)
        simp only [this, hid, hv]; rfl
      · cases hq
    · rename_i hx; exact hq
    · cases hq
  case store T p x =>
    obtain ⟨q, hq, rfl⟩ := Option.map_eq_some_iff.1 ht
    refine Option.map_eq_some_iff.2 ⟨q, ?_, rfl⟩
    unfold stS at hq ⊢
    split at hq
    · rename_i id n i o' hx
      split at hq
      · rename_i ob hid
        obtain ⟨v, hv, rfl⟩ := Option.map_eq_some_iff.1 hq
        have := h id (by simp)
        simp only [this, hid, hv]; rfl
      · cases hq
    · cases hq
  case nilCheck x =>
    split at ht
    · rename_i id n i o' hx; exact ht
    · rename_i hx; exact ht
    · cases ht
  case fieldAddr T x f =>
    split at ht
    · rename_i off ft id n i o' hf hx; exact ht
    · rename_i off ft e xs i o' hf hx
      exact ht
    · cases ht
  case convert src dst x =>
    split at ht
    · exact ht
    · rename_i E' h1 h2
      unfold strS at ht ⊢
      split at ht
      · rename_i xs rd p hE hsrc
        obtain ⟨l, hl, rfl⟩ := Option.map_eq_some_iff.1 ht
        have hs2 := srcOf_hp (hp' := hp') hsrc fun i hi => h i (by simp [hi])
        simp only [hE, hs2, hl, Option.map_some]
      · cases ht
    · cases ht
  case indexAddr T x i =>
    unfold idxS at ht ⊢
    split at ht
    · rename_i h1
      split at ht
      · rename_i h2
        split at ht
        · rename_i h3; exact ht
        · rename_i id n h3
          split at ht
          · rename_i ob hid
            cases ht
            have := h id (by simp)
            simp only [this, hid]
          · cases ht
        · cases ht
      · split at ht
        · split at ht
          · exact ht
          · rename_i id m i' o' h3
            split at ht
            · rename_i ob hid
              cases ht
              have := h id (by simp)
              simp only [this, hid]
            · cases ht
          · cases ht
        · cases ht
    · cases ht
  case slice T x lo hi mx =>
    cases mx with
    | some _ => simp at ht
    | none =>
      simp only at ht ⊢
      unfold sliceS at ht ⊢
      split at ht
      · rename_i h3; exact ht
      · rename_i h3; exact ht
      · rename_i h3; exact ht
      · rename_i id n i o' h3
        split at ht
        · rename_i ob hid
          have hh : id ∈ t.e.rd := by
            split at ht
            · split at ht
              · cases ht; simp
              · cases ht
            · cases ht
          have := h id (by simp [hh])
          simp only [this, hid]; exact ht
        · cases ht
      · rename_i id n h3
        split at ht
        · rename_i ob hid
          have hh : id ∈ t.e.rd := by
            split at ht
            · cases ht; simp
            · cases ht
          have := h id (by simp [hh])
          simp only [this, hid]; exact ht
        · cases ht
      · cases ht
  case call c =>
    obtain ⟨callee, args, tys⟩ := c
    cases callee with
    | builtin b =>
      simp only at ht ⊢
      split at ht
      · rename_i x T ha hT
        obtain ⟨q, hq, rfl⟩ := Option.map_eq_some_iff.1 ht
        refine Option.map_eq_some_iff.2 ⟨q, ?_, rfl⟩
        unfold lenV at hq ⊢
        split at hq
        · exact hq
        · exact hq
        · exact hq
        · rename_i id n
          split at hq
          · rename_i ob hid
            cases hq
            have := h id (by simp)
            simp only [this, hid]
          · cases hq
        · rename_i id
          split at hq
          · rename_i ob hid
            cases hq
            have := h id (by simp)
            simp only [this, hid]
          · cases hq
        · cases hq
      · rename_i v1 v2 T T' ha hT
        split at ht
        · rename_i hTT
          subst hTT
          simp only [if_true]
          unfold appS at ht ⊢
          split at ht
          · cases ht
          · rename_i E' hE
            split at ht
            · rename_i z ys rd p hz hsrc
              have hrd : ∀ i ∈ rd, i ∈ t.e.rd := by
                split at ht
                · cases ht; exact fun i hi => hi
                · split at ht
                  · cases ht; exact fun i hi => by simp [hi]
                  · cases ht
                · cases ht
              have hs2 := srcOf_hp (hp' := hp') hsrc fun i hi => h i (by simp [hrd i hi])
              simp only [hz, hs2]
              split at ht
              · exact ht
              · rename_i id n
                split at ht
                · rename_i ob hid
                  cases ht
                  have := h id (by simp)
                  simp only [this, hid]
                · cases ht
              · cases ht
            · cases ht
        · cases ht
      · rename_i v1 v2 T T' ha hT
        split at ht
        · rename_i hTT
          subst hTT
          simp only [if_true]
          unfold copyS at ht ⊢
          split at ht
          · cases ht
          · rename_i E' hE
            split at ht
            · rename_i id n i o' k
              split at ht
              · rename_i ob ys rd p hid hsrc
                split at ht
                · rename_i cs hcs
                  cases ht
                  have hs2 := srcOf_hp (hp' := hp') hsrc fun i hi => h i (by simp [hi])
                  have := h id (by simp)
                  simp only [this, hid, hs2, hcs]
                · cases ht
              · cases ht
            · rename_i id n
              split at ht
              · rename_i ob ys rd p hid hsrc
                cases ht
                have hs2 := srcOf_hp (hp' := hp') hsrc fun i hi => h i (by simp [hi])
                have := h id (by simp)
                simp only [this, hid, hs2]
              · cases ht
            · cases ht
        · cases ht
      · rename_i h1; exact ht
      · rename_i h1; exact ht
      · cases ht
    | value f => simp at ht
    | invoke r m => simp at ht
  all_goals exact ht

theorem all2_mono {R R' : V → V → Prop} (h : ∀ x y, R x y → R' x y) : ∀ (xs ys : List V), all2 R xs ys → all2 R' xs ys
  | [], [], _ => by simp only [all2]
  | x :: xs, y :: ys, hr => by
    simp only [all2] at hr ⊢
    exact ⟨h x y hr.1, all2_mono h xs ys hr.2⟩
  | [], _ :: _, hr => hr.elim
  | _ :: _, [], hr => hr.elim

theorem argLe_hp {hp hp' : Heap} {B : Nat → Prop} {D : V → Prop} (h : ∀ i, B i → hp' i = hp i) : ∀ (n : Nat) (x y : V), argLe hp B D n x y → argLe hp' B D n x y
  | 0, x, y, hx => by simpa only [argLe] using hx
  | n + 1, x, y, hx => by
    have ih := all2_mono (argLe_hp (D := D) h n)
    unfold argLe at hx ⊢
    split at hx
    · exact hx
    · obtain ⟨hb, ob, h1, h2, h3, h4⟩ := hx
      exact ⟨hb, ob, by rw [h _ hb]; exact h1, h2, h3, ih _ _ h4⟩
    · obtain ⟨hb, ob, h1, h2, h3, h4, h5, h6⟩ := hx
      exact ⟨hb, ob, by rw [h _ hb]; exact h1, h2, h3, h4, h5, ih _ _ h6⟩
    · obtain ⟨hb, ob, cs, h1, h2, h3, h4, h5, h6⟩ := hx
      exact ⟨hb, ob, cs, by rw [h _ hb]; exact h1, h2, h3, h4, h5, ih _ _ h6⟩
    · exact ih _ _ hx
    · exact ih _ _ hx
    · exact ⟨hx.1, ih _ _ hx.2.1, ih _ _ hx.2.2⟩
    · exact ⟨hx.1, argLe_hp h n _ _ hx.2⟩
    · exact hx

mutual
theorem vLe_hp {hp hp' : Heap} {σ : Nat → Option (Option Nat)} {B : Nat → Prop} (h : ∀ i, B i → hp' i = hp i) : ∀ (x y : V), vLe hp σ B x y → vLe hp' σ B x y
  | .bot, y, hx => by cases y <;> (simp only [vLe] at hx ⊢ <;> exact hx)
  | .bool _, y, hx => by cases y <;> (simp only [vLe] at hx ⊢ <;> exact hx)
  | .int _ _, y, hx => by cases y <;> (simp only [vLe] at hx ⊢ <;> exact hx)
  | .str _, y, hx => by cases y <;> (simp only [vLe] at hx ⊢ <;> exact hx)
  | .nilS, y, hx => by cases y <;> (simp only [vLe] at hx ⊢ <;> exact hx)
  | .sl _ _, y, hx => by cases y <;> (simp only [vLe] at hx ⊢ <;> exact hx)
  | .nilP, y, hx => by cases y <;> (simp only [vLe] at hx ⊢ <;> exact hx)
  | .nilF, y, hx => by cases y <;> (simp only [vLe] at hx ⊢ <;> exact hx)
  | .nl, y, hx => by cases y <;> (simp only [vLe] at hx ⊢ <;> exact hx)
  | .sn _ _, y, hx => by cases y <;> (simp only [vLe] at hx ⊢ <;> exact hx)
  | .win id n i o k, y, hx => by
    cases y with
    | sl e ys =>
      simp only [vLe] at hx ⊢
      exact argLe_hp h _ _ _ hx
    | _ => (simp only [vLe] at hx ⊢ <;> exact hx)
  | .tptr _ _ _ _, y, hx => by cases y <;> (simp only [vLe] at hx ⊢ <;> exact hx)
  | .mp _, y, hx => by cases y <;> (simp only [vLe] at hx ⊢ <;> exact hx)
  | .obj id n, y, hx => by
    cases y with
    | sl e ys =>
      simp only [vLe] at hx ⊢
      exact argLe_hp h _ _ _ hx
    | _ => (simp only [vLe] at hx ⊢ <;> exact hx)
  | .ptr id n i o, y, hx => by
    cases y with
    | tptr e ys i' o' =>
      simp only [vLe] at hx ⊢
      exact argLe_hp h _ _ _ hx
    | _ => (simp only [vLe] at hx ⊢ <;> exact hx)
  | .agg xs, y, hx => by
    cases y with
    | agg ys => simp only [vLe] at hx ⊢; exact vsLe_hp h xs ys hx
    | _ => (simp only [vLe] at hx ⊢ <;> exact hx)
  | .tup xs, y, hx => by
    cases y with
    | tup ys => simp only [vLe] at hx ⊢; exact vsLe_hp h xs ys hx
    | _ => (simp only [vLe] at hx ⊢ <;> exact hx)
  | .func f p q, y, hx => by
    cases y with
    | func g c d => simp only [vLe] at hx ⊢; exact ⟨hx.1, vsLe_hp h p c hx.2.1, vsLe_hp h q d hx.2.2⟩
    | _ => (simp only [vLe] at hx ⊢ <;> exact hx)
  | .opt g x, y, hx => by
    cases y with
    | bot => simp only [vLe]
    | _ => simp only [vLe] at hx ⊢; exact ⟨hx.1, vLe_hp h x _ hx.2⟩
theorem vsLe_hp {hp hp' : Heap} {σ : Nat → Option (Option Nat)} {B : Nat → Prop} (h : ∀ i, B i → hp' i = hp i) : ∀ (xs ys : List V), vsLe hp σ B xs ys → vsLe hp' σ B xs ys
  | [], ys, hx => by simpa only [vsLe] using hx
  | x :: xs, ys, hx => by
    simp only [vsLe] at hx ⊢
    obtain ⟨y, r, rfl, h1, h2⟩ := hx
    exact ⟨y, r, rfl, vLe_hp h x y h1, vsLe_hp h xs r h2⟩
end

theorem fzOk_hp {hp hp' : Heap} {bor : List Nat} {nb : Nat} (h : ∀ i, i ∈ bor → hp' i = hp i) : ∀ {fz : List (Nat × Obj)}, fzOk hp bor nb fz → fzOk hp' bor nb fz
  | [], _ => by simp only [fzOk]
  | (i, o) :: r, hz => by
    simp only [fzOk] at hz ⊢
    obtain ⟨⟨h1, h2, ob, h3, h4, h5, h6, h7, h8, h9⟩, hn, hr⟩ := hz
    exact ⟨⟨h1, h2, ob, by rw [h i h1]; exact h3, h4, h5, h6, h7, all2_mono (argLe_hp h 8) _ _ h8, h9⟩, hn, fzOk_hp h hr⟩
theorem fzAll_hp {hp hp' : Heap} {bor : List Nat} (h : ∀ i, i ∈ bor → hp' i = hp i) {fz : List (Nat × Obj)} (hz : fzAll hp bor fz) : fzAll hp' bor fz := fun i hi => (hz i hi).imp_right fun ⟨ob, h1, h2⟩ => ⟨ob, by rw [h i hi]; exact h1, h2⟩

theorem J0_loc {fid : Nat} {s s' : FSt} {e : Eff} (h : J0 P fid o s e) (hρ : ∀ x ∈ o.op.operands, s'.ev x = s.ev x) (hhp : ∀ i ∈ e.rd ++ e.ids, s'.hp i = s.hp i) (hkn : ∀ i ∈ e.rd ++ e.ids, s'.kn i ↔ s.kn i) (hgl : s'.gl = s.gl) (hnb : s'.nb = s.nb) : J0 P fid o s' e := by
  rcases h with ⟨t, ht, hs, rfl, hf⟩ | h | h
  · refine .inl ⟨t, ?_, hs, rfl, fun hi hk => hf hi ((hkn _ (by simp [hi])).1 hk)⟩
    rw [istep_ρ (ρ := s.ev) hρ]
    exact istep_hp ht hhp
  · refine .inr (.inl ⟨?_⟩)
    obtain ⟨fo, args, tys, f, first, caps, args0, res, bor, fz, gl, ho, hf, hfd, hG, hargs, hbor, hpure, rfl⟩ := h.ex
    have hh : ∀ i, i ∈ bor → s'.hp i = s.hp i := fun i hi => hhp i (by simp [hi])
    refine ⟨fo, args, tys, f, first, caps, args0, res, bor, fz, gl, ho, ?_, hfd, by rw [hgl]; exact hG, ?_, hbor.imp id fun h => ⟨by rw [hnb]; exact fzOk_hp hh h.1, fzAll_hp hh h.2⟩, hpure, rfl⟩
    · rw [hρ fo (by simp [ho, Op.operands, Call.operands])]; exact hf
    · have : args.toList.map s'.ev = args.toList.map s.ev := List.map_congr_left fun x hx => hρ x (by simp [ho, Op.operands, Call.operands]; exact .inr (by simpa using hx))
      rw [this]
      exact all2_mono (argLe_hp hh 8) _ _ hargs
  · refine .inr (.inr ⟨?_⟩)
    obtain ⟨fo, args, tys, f, first, caps, obs, args0, obs', res, σ, bor, fz, gl, ho, hf, hfr, hG, hargs, H, hk', hnew, hsh, rfl⟩ := h.ex
    have hh : ∀ i, i ∈ bor → s'.hp i = s.hp i := fun i hi => hhp i (by simp [hi])
    refine ⟨fo, args, tys, f, first, caps, obs, args0, obs', res, σ, bor, fz, gl, ho, ?_, hfr, by rw [hgl]; exact hG, ?_, ⟨H.old, H.new, H.inj, fun i o ho => ?_⟩, hk', fun i hi hj hk => ?_, hsh.imp id fun h => ⟨by rw [hnb]; exact fzOk_hp hh h.1, fzAll_hp hh h.2⟩, rfl⟩
    · rw [hρ fo (by simp [ho, Op.operands, Call.operands])]; exact hf
    · have : args.toList.map s'.ev = args.toList.map s.ev := List.map_congr_left fun x hx => hρ x (by simp [ho, Op.operands, Call.operands]; exact .inr (by simpa using hx))
      rw [this]
      exact vsLe_hp hh _ _ hargs
    · have := H.ob i o ho
      unfold obMatch at this ⊢
      cases hσ : look σ i with
      | none => rw [hσ] at this; exact this
      | some x =>
        rw [hσ] at this
        cases x with
        | none => exact this
        | some j =>
          obtain ⟨o', q1, q2, q3, q4, q5, q6⟩ := this
          exact ⟨o', by rw [hhp j (by simp [olds_mem hσ])]; exact q1, q2, q3, q4, q5, vsLe_hp hh _ _ q6⟩
    · refine hnew i hi hj ((hkn _ ?_).1 hk)
      have hm : (fid + i) ∈ (outU (τr σ fid) 0 obs').map (·.1) := by
        refine List.mem_map.2 ⟨_, outU_mem.2 ⟨i, obs'[i], by simp [hi], rfl⟩, ?_⟩
        simp only [Nat.zero_add]
        unfold τr
        split
        · rename_i j' hj'; exact absurd hj' (hj j')
        · rfl
      simp only [Eff.ids, List.map_append, List.mem_append]
      exact .inr (.inl hm)

theorem ev_same {ops : Array Oper} {s s' : FSt} (hgl : s'.gl = s.gl) (h : ∀ t ∈ o.looksAt ops, s'.sl t = s.sl t) : ∀ x ∈ o.op.operands, s'.ev x = s.ev x := by
  intro x hx
  cases x with
  | tmp t => exact h t (List.mem_append_left _ (List.mem_filterMap.2 ⟨.tmp t, by simpa using hx, rfl⟩))
  | global g => simp only [FSt.ev, hgl]
  | _ => rfl

theorem J_loc {ops : Array Oper} {base i : Nat} {s s' : FSt} {e : Eff} (h : J P ops base i o s e) (hsame : Same (o.looksAt ops) (e.rd ++ e.ids) s s') : J P ops base i o s' e := by
  have hev := ev_same hsame.gl hsame.sl
  unfold J at h ⊢
  cases hg : o.guard with
  | none => rw [hg] at h; exact J0_loc h hev hsame.hp hsame.kn hsame.gl hsame.nb
  | some jw =>
    obtain ⟨j, want⟩ := jw
    rw [hg] at h
    obtain ⟨d, t, hd, hN, ht, h⟩ := h
    have hdl : d ∈ o.looksAt ops := List.mem_append_right _ (by simp [hg, hd])
    refine ⟨d, t, hd, by rw [hsame.N]; exact hN, by rw [hsame.sl d hdl]; exact ht, ?_⟩
    have hevu : ∀ x ∈ o.op.operands, (s'.unw true).ev x = (s.unw true).ev x := fun x hx => by
      cases x with
      | tmp t' =>
        have := hev _ hx
        simp only [FSt.ev] at this
        simp only [FSt.ev, FSt.unw, this]
      | global g => simp only [FSt.ev, FSt.unw, hsame.gl]
      | _ => rfl
    rcases h with ⟨h1, h2⟩ | h | ⟨e0, h1, h2, h3⟩
    · exact .inl ⟨h1, J0_loc h2 hevu hsame.hp hsame.kn hsame.gl hsame.nb⟩
    · exact .inr (.inl h)
    · subst h3
      refine .inr (.inr ⟨e0, fun hc => J0_loc (h1 hc) (fun x hx => ?_) (fun i hi => ?_) (fun i hi => ?_) hsame.gl hsame.nb, h2, rfl⟩)
      · cases x with
        | tmp t' =>
          have := hev _ hx
          simp only [FSt.ev] at this
          simp only [FSt.ev, FSt.unw, this]
        | global g => simp only [FSt.ev, FSt.unw, hsame.gl]
        | _ => rfl
      · exact hsame.hp i (by simpa [Eff.ids, h2] using hi)
      · exact hsame.kn i (by simpa [Eff.ids, h2] using hi)

theorem RV_lift {c : Ctx} {x : V} {v : Value} (hd : c.data = false) (h : RV c (x.unw true) v) : RV c x v := by
  cases x with
  | opt g' x =>
    simp only [V.unw] at h
    split at h
    · simp only [RV]
      exact ⟨hd, fun _ => h, fun h0 => by rename_i h0'; simp [h0] at h0'⟩
    · exact h
  | _ => simpa only [V.unw] using h

theorem Rel.lift {s1 s2 : FSt} (h : Rel E s1 a w η) (hhp : s1.hp = s2.hp) (hkn : s1.kn = s2.kn) (hN : s1.N = s2.N) (hnb : s1.nb = s2.nb) (hgl : s1.gl = s2.gl) (hsl : ∀ t, s1.sl t = s2.sl t ∨ s1.sl t = (s2.sl t).unw true) : Rel E s2 a w η := by
  have hctx : s1.ctx E w η = s2.ctx E w η := by unfold FSt.ctx; rw [hhp, hkn]
  refine ⟨fun t' => ?_, by rw [← hctx]; exact h.laid, h.since, by rw [← hhp]; exact h.fresh, by rw [← hN]; exact h.tmps, h.defers, ⟨by rw [← hnb]; exact h.held.nb, fun i hi => by unfold HeldAt; rw [← hhp, ← hkn]; exact h.held.at_ i (by rw [hnb]; exact hi)⟩, fun g p hp => by rw [← hctx]; exact h.glob g p (by rw [hgl]; exact hp), fun p hp => by rw [← hctx]; exact h.ghost p hp⟩
  have hs := h.slots t'
  rw [hctx] at hs
  rcases hsl t' with e | e
  · rw [e] at hs; exact hs
  · rw [e] at hs; exact RV_lift rfl hs

theorem app_unw_sl (s : FSt) (d : Option Tmp) (e : Eff) (t : Nat) : ((s.unw true).app d e).sl t = (s.app d e).sl t ∨ ((s.unw true).app d e).sl t = ((s.app d e).sl t).unw true := by
  simp only [FSt.app, FSt.put_sl]
  show (if d = some t ∧ t < s.N then e.val else (s.sl t).unw true) = _ ∨ _
  by_cases h : d = some t ∧ t < s.N
  · rw [if_pos h]; exact .inl (by rw [if_pos h])
  · rw [if_neg h]; exact .inr (by rw [if_neg h]; show (if d = some t ∧ t < s.N then e.val else (s.sl t).unw true) = _; rw [if_neg h])

theorem J_law (P : Program) (ops : Array Oper) (E : Entry) (base : Nat) : LawJ P ops E (J P ops base) := by
  constructor
  · intro i o s e h a w η hr K Q hK
    unfold J at h
    unfold stepK
    cases hg : o.guard with
    | none =>
      rw [hg] at h
      have : Region.wanted o (yielded ops a.tmps) = true := by simp [Region.wanted, hg]
      rw [if_pos this]
      exact J0_sound hr h K Q hK
    | some jw =>
      obtain ⟨j, want⟩ := jw
      rw [hg] at h
      obtain ⟨d, g, hd, hN, ht, h⟩ := h
      have hw := wanted_of hr hg hd hN ht
      rw [hw]
      rcases h with ⟨h1, h2⟩ | ⟨h1, h2⟩ | ⟨e0, h1, h2, h3⟩
      · subst h1
        simp only [if_true]
        exact J0_sound hr.unw h2 K Q fun a' w' η' hr' => hK a' w' η' (hr'.lift rfl rfl (by simp only [FSt.app, FSt.put_N]; rfl) (by simp only [FSt.app, FSt.put_nb]; rfl) (by simp only [FSt.app, FSt.put_gl]; rfl) (app_unw_sl s o.dst e))
      · subst h1; subst h2
        simp only [Bool.false_eq_true, if_false]
        refine hK _ w η ?_
        rw [FSt.app_nil]
        exact hr.put o.dst (by simp only [RV]; exact ⟨#[], rfl, by simp [RVl]⟩)
      · subst h3
        by_cases hc : g = true
        · rw [if_pos hc]
          have h1' := h1 hc
          rw [hc] at h1'
          refine J0_sound hr.unw h1' K Q fun a' w' η' hr' => hK a' w' η' ?_
          rw [FSt.app_nil]
          have he0 : e0 = ⟨e0.val, [], e0.rd⟩ := by cases e0; simp_all
          rw [he0, FSt.app_nil] at hr'
          have hhp : ((s.unw true).put o.dst e0.val).hp = (s.put o.dst (.opt g e0.val)).hp := by rw [FSt.put_hp, FSt.put_hp]; rfl
          have hkn : ((s.unw true).put o.dst e0.val).kn = (s.put o.dst (.opt g e0.val)).kn := by rw [FSt.put_kn, FSt.put_kn]; rfl
          have hNN : ((s.unw true).put o.dst e0.val).N = (s.put o.dst (.opt g e0.val)).N := by rw [FSt.put_N, FSt.put_N]; rfl
          have hnb : ((s.unw true).put o.dst e0.val).nb = (s.put o.dst (.opt g e0.val)).nb := by rw [FSt.put_nb, FSt.put_nb]; rfl
          have hgll : ((s.unw true).put o.dst e0.val).gl = (s.put o.dst (.opt g e0.val)).gl := by rw [FSt.put_gl, FSt.put_gl]; rfl
          have hctx : ((s.unw true).put o.dst e0.val).ctx E w' η' = (s.put o.dst (.opt g e0.val)).ctx E w' η' := by
            unfold FSt.ctx; rw [hhp, hkn]
          refine ⟨fun t' => ?_, by rw [← hctx]; exact hr'.laid, hr'.since, by rw [← hhp]; exact hr'.fresh, by rw [← hNN]; exact hr'.tmps, hr'.defers, ⟨by rw [← hnb]; exact hr'.held.nb, fun i hi => by unfold HeldAt; rw [← hhp, ← hkn]; exact hr'.held.at_ i (by rw [hnb]; exact hi)⟩, fun g p hp => by rw [← hctx]; exact hr'.glob g p (by rw [hgll]; exact hp), fun p hp => by rw [← hctx]; exact hr'.ghost p hp⟩
          have hs := hr'.slots t'
          rw [hctx] at hs
          rw [FSt.put_sl] at hs ⊢
          by_cases hdt : o.dst = some t' ∧ t' < s.N
          · rw [if_pos hdt]
            have hdt' : o.dst = some t' ∧ t' < (s.unw true).N := hdt
            rw [if_pos hdt'] at hs
            simp only [RV]
            exact ⟨rfl, fun _ => hs, fun h0 => absurd (hc.symm.trans h0) (by simp)⟩
          · rw [if_neg hdt]
            have hdt' : ¬ (o.dst = some t' ∧ t' < (s.unw true).N) := hdt
            rw [if_neg hdt'] at hs
            have hs' : RV _ ((s.sl t').unw true) _ := hs
            generalize s.sl t' = X at *
            cases X with
            | opt g' x =>
              simp only [V.unw] at hs'
              split at hs'
              · simp only [RV]
                exact ⟨rfl, fun _ => hs', fun h0 => by rename_i h0'; simp [h0] at h0'⟩
              · exact hs'
            | _ => simpa only [V.unw] using hs'
        · rw [if_neg hc]
          refine hK _ w η ?_
          rw [FSt.app_nil]
          exact hr.put o.dst (by simp only [RV]; exact ⟨rfl, fun h => absurd h hc, fun _ => rfl⟩)
  · intro i o s s' e h hsame
    exact J_loc h hsame
end
end Go.AM
