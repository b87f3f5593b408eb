/- The walk's soundness: regions, code, loops, functions. -/
import Derived.Test.YtdeionjkcmpnpaaDoorAmCode
import Derived.RangeFuncRecord
set_option linter.unusedSimpArgs false
set_option linter.unusedVariables false
namespace Go.AM
open Go.RowKit

section
variable {P : Program} {E : Entry}

/-- The judgement, with what was written down of a load. -/
def JL (P : Program) (ops : Array Oper) (base : Nat) (lg : Nat → Option LogE) (i : Nat) (o : Oper) (s : FSt) (e : Eff) : Prop :=
  J P ops base i o s e ∧ ∀ x, lg i = some x → x.l = (e.rd, e.ids) ∧ x.u = e.upd ∧ ∀ T pv v, x.p = some (T, pv, v) → ∃ q, o.op = .load T q ∧ o.guard = none ∧ s.ev q = pv ∧ e.val = v
theorem JL_law (P : Program) (ops : Array Oper) (E : Entry) (base : Nat) (lg : Nat → Option LogE) : LawJ P ops E (JL P ops base lg) :=
  ⟨fun i o s e h => (J_law P ops E base).sound i o s e h.1, fun i o s s' e h hs => ⟨(J_law P ops E base).loc i o s s' e h.1 hs, fun x hx => by
    obtain ⟨h1, h2, h3⟩ := h.2 x hx
    refine ⟨h1, h2, fun T pv v hp => ?_⟩
    obtain ⟨q, q1, q2, q3, q4⟩ := h3 T pv v hp
    exact ⟨q, q1, q2, by rw [ev_same hs.gl hs.sl q (by simp [q1, Op.operands])]; exact q3, q4⟩⟩⟩
theorem run_sound {ops : Array Oper} (base : Nat) : ∀ (l : List Oper) (i : Nat) (s : St) (log : List LogE) (K : St → List LogE → Prop) (a : Act) (w : World) (η : Nat → Value), s.nx = base → (∀ j, l[j]? = ops[i + j]?) →
    walk P ops i l s log K → Rel E s.F a w η →
    ∃ (effs : List Eff) (lgs : List LogE) (s' : St), effs.length = l.length ∧ lgs.length = l.length ∧ s'.nx = base ∧ s'.N = s.N ∧ (∀ k, k ∈ s'.ex → k ∈ s.ex ∨ k ∈ effs.flatMap Eff.ids) ∧ K s' (lgs.reverse ++ log) ∧ (∀ (j : Nat) (e : Eff) (x : LogE), effs[j]? = some e → lgs[j]? = some x → x.l = (e.rd, e.ids) ∧ x.u = e.upd) ∧
      ∀ (τ : Nat → Eff) (lg : Nat → Option LogE), (∀ j e, effs[j]? = some e → τ (i + j) = e) → (∀ j, lg (i + j) = lgs[j]?) → SeqT (JL P ops base lg) τ i l s.F (fun f => f = s'.F)
  | [], i, s, log, K, a, w, η, hb, hl, h, hr => ⟨[], [], s, rfl, rfl, hb, rfl, fun k hk => .inl hk, by simpa [walk] using h, fun j e x he => (by simp at he), fun τ lg _ _ => rfl⟩
  | o :: l, i, s, log, K, a, w, η, hb, hl, h, hr => by
    have h0 : ops[i]? = some o := by simpa using (hl 0).symm
    simp only [walk] at h
    obtain ⟨e, he, hK⟩ := gstep_sound h hr
    rw [hb] at he
    have hst := (J_law P ops E base).sound i o s.F e he a w η hr (fun a' w' => ∃ η', Rel E (s.app o.dst e).F a' w' η') (fun _ _ _ => False) (fun a' w' η' hr' => ⟨η', by rw [St.app_F]; exact hr'⟩)
    obtain ⟨a', w', η', hr'⟩ := stepK_inhab hst
    obtain ⟨effs, lgs, s', q1, q1', q2, qN, q3, q4, q6, q5⟩ := run_sound base l (i + 1) (s.app o.dst e) _ K a' w' η' hb (fun j => by have := hl (j + 1); simpa [Nat.add_assoc, Nat.add_comm 1 j] using this) hK hr'
    refine ⟨e :: effs, ⟨(e.rd, e.ids), e.upd, ldE s o e⟩ :: lgs, s', by simp [q1], by simp [q1'], q2, qN, fun k hk => ?_, by simpa using q4, fun j e' x he' hx' => ?_, fun τ lg hτ hlg => ?_⟩
    · rcases q3 k hk with h | h
      · simp only [St.app, List.mem_append] at h
        rcases h with h | h
        · exact .inr (by simp [h])
        · exact .inl h
      · exact .inr (by simp only [List.flatMap_cons, List.mem_append]; exact .inr h)
    · cases j with
      | zero => simp at he' hx'; subst he'; subst hx'; exact ⟨rfl, rfl⟩
      | succ j => exact q6 j e' x (by simpa using he') (by simpa using hx')
    · have h1 : τ i = e := by simpa using hτ 0 e (by simp)
      have h2 : lg i = some ⟨(e.rd, e.ids), e.upd, ldE s o e⟩ := by simpa using hlg 0
      refine ⟨⟨by rw [h1]; exact he, fun x hx => ?_⟩, ?_⟩
      · rw [h2] at hx
        cases hx
        rw [h1]
        refine ⟨rfl, rfl, fun T pv v hp => ?_⟩
        simp only [ldE] at hp
        split at hp
        · rename_i T' q hg ho
          cases hp
          exact ⟨q, ho, hg, by rw [St.ev_F], rfl⟩
        · cases hp
      rw [h1, ← St.app_F]
      exact q5 τ lg (fun j e' hj => by have := hτ (j + 1) e' (by simpa using hj); rwa [show i + (j + 1) = i + 1 + j by omega] at this) (fun j => by have := hlg (j + 1); rw [show i + (j + 1) = i + 1 + j by omega] at this; simpa using this)

theorem disj_of (a b : List Nat × List Nat) (h : apartL a b = true) : (∀ k, k ∈ a.2 → k ∉ b.1 ∧ k ∉ b.2) ∧ (∀ k, k ∈ b.2 → k ∉ a.1 ∧ k ∉ a.2) := by
  simp only [apartL, Bool.and_eq_true, List.all_eq_true, Bool.not_eq_true', List.contains_eq_mem, decide_eq_false_iff_not] at h
  exact h

theorem indB_spec {ops : Array Oper} {L : List (Nat × Nat)} {l : List (List Nat × List Nat)} (h : indB ops L l = true) : ∀ i j x y oj, i < j → l[i]? = some x → l[j]? = some y → ops[j]? = some oj → ¬ Up .any ops i j →
    (i, j) ∈ L ∨ (∀ k, k ∈ x.2 → k ∉ y.1 ∧ k ∉ y.2) ∧ (∀ k, k ∈ y.2 → k ∉ x.1 ∧ k ∉ x.2) := by
  intro i j x y oj hij hi hj ho hno
  unfold indB at h
  rw [List.all_eq_true] at h
  have h1 := h (y, j) (by rw [List.mem_zipIdx_iff_getElem?]; exact hj)
  simp only [List.all_eq_true] at h1
  have h2 := h1 (x, i) (by rw [List.mem_zipIdx_iff_getElem?, List.getElem?_take]; simpa [hij] using hi)
  simp only [ho, Bool.or_eq_true, Bool.and_eq_true] at h2
  rcases h2 with (((h2 | h2) | h2) | h2) | h2
  · have e1 : y.2 = [] := by simpa using h2.1
    have e2 : x.2 = [] := by simpa using h2.2
    rw [e1, e2]; simp
  · exfalso
    unfold after at h2
    rw [← Array.any_toList, List.any_eq_true] at h2
    obtain ⟨e, he, hb⟩ := h2
    have he : e ∈ oj.after := by simpa using he
    simp only [Bool.and_eq_true, beq_iff_eq] at hb
    exact hno (.one ho he hb.1 hb.2)
  · exact .inl (by simpa using h2)
  · exact .inr (disj_of x y h2)
  · exact absurd (upsF_spec ops.toList [] (by simp) (fun j x hx => by simp at hx) j i (by simpa using h2)) hno

/-- A load, and what may come ahead of it or behind. -/
theorem comm_late {E : Entry} {ops : Array Oper} {base : Nat} {lg : Nat → Option LogE} {τ : Nat → Eff} {i j : Nat} {x y : LogE} (hi : lg i = some x) (hids : (τ i).ids = []) (hu : y.u = (τ j).upd) (h : lateOne P x.p y.u) : Comm (JL P ops base lg) ops τ i j := by
  refine ⟨fun k hk => (by rw [hids] at hk; cases hk), fun oi oj s ho1 ho2 hap => ?_⟩
  obtain ⟨a1, a2, a3⟩ := Oper.apart_spec hap
  refine ⟨fun hJ => (JL_law P ops E base lg).loc j oj _ s _ hJ (Same.app s oi.dst (τ i) a1 (fun k hk => by rw [hids] at hk; cases hk)).symm, fun hJ => ?_⟩
  unfold lateOne at h
  split at h
  · rename_i T id n i' o' v hp
    obtain ⟨q, q1, q2, q3, q4⟩ := (hJ.2 x hi).2.2 T _ v hp
    have hev : (s.app oj.dst (τ j)).ev q = s.ev q := by
      cases q with
      | tmp t =>
        show ((s.put oj.dst (τ j).val).sl t) = s.sl t
        rw [FSt.put_sl, if_neg]
        rintro ⟨hd, _⟩
        exact a3 t hd (List.mem_append_left _ (List.mem_filterMap.2 ⟨.tmp t, by simp [q1, Op.operands], rfl⟩))
      | global g => simp only [FSt.ev, FSt.app, FSt.put_gl]
      | _ => rfl
    refine ⟨?_, fun x' hx' => ?_⟩
    · have hJ1 := hJ.1
      unfold J at hJ1 ⊢
      rw [q2] at hJ1 ⊢
      rcases hJ1 with ⟨t, ht, hs, he, hf⟩ | hc
      · have ht' := ht
        unfold istep at ht'
        rw [q1] at ht'
        simp only [Option.map_eq_some_iff] at ht'
        obtain ⟨q', hq', hte⟩ := ht'
        unfold ldS at hq'
        rw [q3] at hq'
        simp only at hq'
        split at hq'
        · rename_i ob hid
          obtain ⟨v', hv', hq''⟩ := Option.map_eq_some_iff.1 hq'
          subst hq''
          subst hte
          simp only at he hs
          rw [← he] at q4
          simp only at q4
          subst q4
          have hnew : ∃ ob', (s.app oj.dst (τ j)).hp id = some ob' ∧ partV P T (nth ob'.xs i') o' = some v' ∧ n = ob'.xs.length ∧ i' < ob'.xs.length := by
            have hh : (s.app oj.dst (τ j)).hp id = match look (τ j).upd id with | none => s.hp id | some ob' => some ob' := by
              show updHp (τ j).upd s.hp id = _
              have : ∀ (l : List (Nat × Obj)), updHp l s.hp id = match look l id with | none => s.hp id | some ob' => some ob' := by
                intro l
                induction l with
                | nil => rfl
                | cons p l ih =>
                  obtain ⟨k, o⟩ := p
                  simp only [updHp, look]
                  by_cases hk : id = k
                  · simp [hk]
                  · simp only [hk, if_false]; exact ih
              exact this _
            rw [← hu] at hh
            cases hl : look y.u id with
            | none => rw [hl] at hh; exact ⟨ob, by rw [hh]; exact hid, hv', hs.1⟩
            | some ob' =>
              rw [hl] at hh
              rw [hl] at h
              exact ⟨ob', hh, h.1, h.2⟩
          obtain ⟨ob', n1, n2, n3, n4⟩ := hnew
          refine .inl ⟨⟨⟨v', [], [id]⟩, (n = ob'.xs.length ∧ i' < ob'.xs.length) ∧ 0 < P.cellsOf T⟩, ?_, ⟨⟨n3, n4⟩, hs.2⟩, he, fun hi' => (by rw [hids] at hi'; cases hi')⟩
          unfold istep
          rw [q1]
          simp only [hev, q3, ldS, n1, n2, Option.map_some]
        · cases hq'
      · exfalso
        rcases hc with hc | hc
        · obtain ⟨fo, args, tys, _, _, _, _, _, _, _, _, ho, _⟩ := hc.ex
          rw [q1] at ho; cases ho
        · obtain ⟨fo, args, tys, _, _, _, _, _, _, _, _, _, _, _, ho, _⟩ := hc.ex
          rw [q1] at ho; cases ho
    · obtain ⟨z1, z2, z3⟩ := hJ.2 x' hx'
      refine ⟨z1, z2, fun T' pv' v' hp' => ?_⟩
      obtain ⟨r, r1, r2, r3, r4⟩ := z3 T' pv' v' hp'
      have : r = q := by rw [q1] at r1; cases r1; rfl
      subst this
      exact ⟨r, r1, r2, by rw [hev]; exact r3, r4⟩
  · exact h.elim

/-- A larger set of known numbers. -/
theorem Rel.more {s : FSt} {a : Act} {w : World} {η : Nat → Value} (h : Rel E s a w η) {kn' : Nat → Prop} (hk : ∀ i, s.kn i → kn' i) : Rel E { s with kn := kn' } a w η := by
  have K : Keeps (s.ctx E w η) (FSt.ctx E { s with kn := kn' } w η) := ⟨Nat.le_refl _, fun _ _ _ _ => rfl, fun _ _ h => h, rfl, fun _ => hk, fun _ id _ => by
    unfold EvoAt
    cases h1 : s.hp id <;> simp [FSt.ctx, h1]⟩
  refine ⟨fun t => RV_keep K _ _ (h.slots t), ⟨fun id o ho => ?_, h.laid.inj⟩, h.since, h.fresh, h.tmps, h.defers, ⟨h.held.nb, fun i hi => ⟨hk i (h.held.at_ i hi).1, (h.held.at_ i hi).2⟩⟩, fun g p hp => RV_keep K _ _ (h.glob g p hp), fun p hp => RV_keep K.asData _ _ (h.ghost p hp)⟩
  obtain ⟨p, l, n, ⟨us, r1, r2⟩, hro, hown, hbox⟩ := h.laid.obj id o ho
  exact ⟨p, hk _ l, n, ⟨us, RVl_keep (K.withData rfl _) _ _ r1, r2⟩, hro, hown, hbox⟩

theorem exOk_mem {n : Nat} : ∀ {l : List Nat}, exOk l n → ∀ k ∈ l, k < n
  | [], _, k, hk => by simp at hk
  | x :: r, h, k, hk => by
    rcases List.mem_cons.1 hk with rfl | hk
    · exact h.1
    · exact exOk_mem h.2 k hk

theorem region_sound (hm : P.follows .mixedOrders = true) {id : Nat} {ops : Array Oper} {draw : Bool} {s : St} {Q : Exit → St → Prop}
    (h : walk P ops 0 ops.toList s [] fun s' log => (draw = true → DrawG P ops log) ∧ exOk s'.ex (s'.nx + 16 * ops.size) ∧ Q .normal (s'.next ops.size)) : AW P E (.region id ops draw) s Q := by
  intro a w η hr
  obtain ⟨effs, lgs, s', q1, q1', q2, qN, q3, ⟨q4, qx, q4'⟩, q6, q5⟩ := run_sound (ops := ops) s.nx ops.toList 0 s [] _ a w η rfl (by simp) h hr
  let τ : Nat → Eff := fun j => effs.getD j ⟨.bot, [], []⟩
  have hτ : ∀ j e, effs[j]? = some e → τ (0 + j) = e := fun j e he => by simp [τ, he]
  let lg : Nat → Option LogE := fun j => lgs[j]?
  have hlg : ∀ j, lg (0 + j) = lgs[j]? := fun j => by simp [lg]
  have hseq := q5 τ lg hτ hlg
  -- the numbers that a region lays are its own, or were known
  have hQ : ∀ f a w η, f = s'.F → Rel E f a w η → (fun e a' w' => ∃ s'' η', Q e s'' ∧ Rel E s''.F a' w' η') .normal a w := fun f a w η hf hr' => by
    subst hf
    refine ⟨s'.next ops.size, η, q4', ?_⟩
    have := hr'.more (kn' := fun i => i < s'.nx + 16 * ops.size ∨ i ∈ []) (fun i hi => ?_)
    · exact this
    · rcases hi with hi | hi
      · exact .inl (Nat.lt_of_lt_of_le hi (Nat.le_add_right _ _))
      · exact .inl (exOk_mem qx i hi)
  cases draw with
  | false => exact wp_seq_region (JL_law P ops E s.nx lg) hQ hseq hr
  | true =>
    have hd := q4 rfl
    have hboth : ∃ L, drawOk ops L (lgs.reverse ++ []) = true ∧ lateAll P (lgs.reverse ++ []).reverse L := by
      rcases hd with hd | hd
      · exact ⟨[], hd, by simp [lateAll]⟩
      · exact hd
    obtain ⟨L, hd, hlate⟩ := hboth
    simp only [drawOk, Bool.and_eq_true, List.append_nil, List.map_reverse, List.reverse_reverse] at hd hlate
    refine wp_any_region (JL_law P ops E s.nx lg) hm hQ hd.1 (fun i j oj hij hoj hno => ?_) hseq hr
    have hsz : ops.toList.length = ops.size := by simp
    have hjl : j < ops.size := (Array.getElem?_eq_some_iff.1 hoj).1
    have hj : effs[j]? = some effs[j] := List.getElem?_eq_getElem (by omega)
    have hi : effs[i]? = some effs[i] := List.getElem?_eq_getElem (by omega)
    have hj' : lgs[j]? = some lgs[j] := List.getElem?_eq_getElem (by omega)
    have hi' : lgs[i]? = some lgs[i] := List.getElem?_eq_getElem (by omega)
    have e1 : τ i = effs[i] := by simpa using hτ i _ hi
    have e2 : τ j = effs[j] := by simpa using hτ j _ hj
    obtain ⟨f1, f2⟩ := q6 i _ _ hi hi'
    obtain ⟨g1, g2⟩ := q6 j _ _ hj hj'
    rcases indB_spec hd.2 i j _ _ oj hij (by rw [List.getElem?_map, hi']; rfl) (by rw [List.getElem?_map, hj']; rfl) hoj hno with hl | hl
    · obtain ⟨x, y, hx, hy, hz, hl'⟩ := lateAll_mem hlate (i, j) hl
      simp only at hx hy
      rw [hi'] at hx; cases hx
      rw [hj'] at hy; cases hy
      rw [f1] at hz
      exact comm_late (E := E) (x := lgs[i]) (y := lgs[j]) (by simp [lg]) (by rw [e1]; exact hz) (by rw [e2]; exact g2) hl'
    · refine comm_of_indep (JL_law P ops E s.nx lg) ?_
      rw [e1, e2]
      rw [f1, g1] at hl
      exact hl

theorem AW_mono {c : Code} {s : St} {Q Q' : Exit → St → Prop} (h : AW P E c s Q) (hq : ∀ e s, Q e s → Q' e s) : AW P E c s Q' :=
  fun a w η hr => wp_mono (h a w η hr) fun e _ _ ⟨s', η', q, r⟩ => ⟨s', η', hq e s' q, r⟩

theorem aev_sound (hm : P.follows .mixedOrders = true) : ∀ (c : Code) (s : St) (Q : Exit → St → Prop), aev P E c s Q → AW P E c s Q
  | .skip, s, Q, h => fun a w η hr => wp_skip ⟨s, η, h, hr⟩
  | .label l, s, Q, h => fun a w η hr => wp_label ⟨s, η, h, hr⟩
  | .ret, s, Q, h => fun a w η hr => wp_ret ⟨s, η, h, hr⟩
  | .exit id, s, Q, h => fun a w η hr => wp_exit ⟨s, η, h, hr⟩
  | .region id ops draw, s, Q, h => region_sound hm h
  | .seq x y, s, Q, h => by
    intro a w η hr
    have h1 := aev_sound hm x s _ h a w η hr
    refine wp_seq (wp_mono h1 ?_)
    rintro e a' w' ⟨s', η', q, r⟩
    cases e with
    | normal => exact aev_sound hm y s' Q q a' w' η' r
    | _ => exact ⟨s', η', q, r⟩
  | .cond c x y, s, Q, h => by
    intro a w η hr
    simp only [aev] at h
    split at h
    · rename_i t ht
      have hv := ev_sound hr c
      rw [St.ev_F, ht] at hv
      simp only [RV] at hv
      cases t with
      | true => exact wp_cond_true hv (aev_sound hm x s Q (h.1 rfl) a w η hr)
      | false => exact wp_cond_false hv (aev_sound hm y s Q (h.2 rfl) a w η hr)
    · exact h.elim
  | .block id c, s, Q, h => by
    intro a w η hr
    refine wp_block (wp_mono (aev_sound hm c s _ h a w η hr) ?_)
    rintro e a' w' ⟨s', η', q, r⟩
    cases e with
    | exit id' =>
      simp only [Exit.inBlock]
      simp only [blockK] at q
      split
      · rename_i hid; rw [if_pos hid] at q; exact ⟨s', η', q, r⟩
      · rename_i hid; rw [if_neg hid] at q; exact ⟨s', η', q, r⟩
    | _ => exact ⟨s', η', q, r⟩
  | .loop c, s, Q, h => h
  | .rangeFunc .., s, Q, h => h
  | .scope c, s, Q, h => by
    intro a w η hr
    unfold aev at h
    split at h
    · exact h a w η hr
    · refine wp_scope_straight (wp_mono (aev_sound hm c s _ h a w η hr) ?_)
      rintro e a' w' ⟨s', η', q, r⟩
      cases e with
      | goto l => exact q.elim
      | _ => exact ⟨s', η', q, r⟩
  | .goto l, s, Q, h => fun a w η hr => wp_goto ⟨s, η, h, hr⟩
  | .refuse _, s, Q, h => h

/-! ## a function's body -/

def St.init (args : List V) (N : Nat) (gl : Globs) : St := ⟨(List.range args.length).zip args, [], 0, [], N, 0, gl⟩

/-- What a function answers: each result, and what must hold for it. -/
def resV (P : Program) (s : St) : ResultVar → Option (V × Prop)
  | .tmp t => some (s.get t, True)
  | .cell a T => (ldS P (look s.hp) T (s.get a)).map fun q => (q.e.val, q.side ∧ 0 < P.cellsOf T)
def resVs (P : Program) (s : St) : List ResultVar → Option (List V × Prop)
  | [] => some ([], True)
  | r :: rs => (resV P s r).bind fun x => (resVs P s rs).map fun y => (x.1 :: y.1, x.2 ∧ y.2)
def oneV : List V → V
  | [x] => x
  | xs => .tup xs

/-- The end of a function that answers data. -/
def Fin (P : Program) (fn : Func) (res : V) (e : Exit) (s : St) : Prop :=
  match e with
  | .normal | .ret => ∃ x, resVs P s fn.results.toList = some x ∧ x.2 ∧ argLe (look s.hp) (fun _ => True) V.pure 8 (oneV x.1) res
  | _ => False
/-- The end of one whose answer is all its own. -/
def FinF (P : Program) (fn : Func) (res : V) (e : Exit) (s : St) : Prop :=
  match e with
  | .normal | .ret => ∃ x, resVs P s fn.results.toList = some x ∧ x.2 ∧ argLe (look s.hp) (fun id => ∀ ob, look s.hp id = some ob → ob.k ≠ .ro) V.noRef 8 (oneV x.1) res
  | _ => False

theorem ld_sound {s : FSt} {a : Act} {w : World} {η : Nat → Value} (hr : Rel E s a w η) {T : TypeId} {x : V} {q : Stp} (hq : ldS P s.hp T x = some q) (hs : q.side) (hc : 0 < P.cellsOf T) {v : Value} (hx : RV (s.ctx E w η) x v) :
    ∃ ad u, v = .pointer (some ad) ∧ (loadVar T ad).run P w = .ok u w ∧ RV (s.ctx E w η) q.e.val u := by
  unfold ldS at hq
  split at hq
  · rename_i id n i o'
    split at hq
    · rename_i ob hid
      obtain ⟨y, hy, rfl⟩ := Option.map_eq_some_iff.1 hq
      rw [nth_eq] at hy
      simp only at hs
      simp only [RV] at hx
      obtain ⟨_, _, _, h⟩ := hx
      have hid' : (s.ctx E w η).hp id = some ob := hid
      simp only [hid'] at h
      obtain ⟨b, hb, hv⟩ := h.2.2 hs.1
      obtain ⟨hp, _, _, us, r1, r2, _, r4⟩ := laid_row hr hid h.1
      have hxi : ob.xs[i]? = some (ob.xs.getD i .bot) := by simp [hs.2]
      obtain ⟨u, hu, hxu⟩ := RVl_get r1 i _ hxi
      obtain ⟨v', hrun, hyv⟩ := load_sound (c := s.ctx E w η) (off := 0) (b := b) r2 (row_range r4 hb) hu hxu hy hp hc
      simp only [Nat.zero_add] at hrun
      exact ⟨_, _, hv, hrun, hyv⟩
    · cases hq
  · rename_i e xs i o'
    obtain ⟨y, hy, rfl⟩ := Option.map_eq_some_iff.1 hq
    rw [nth_eq] at hy
    simp only at hs
    simp only [RV] at hx
    obtain ⟨b, off, us, r1, r2, _, _, r5, hv⟩ := hx
    have r1' := RVl_data (c := s.ctx E w η) _ _ r1
    have hxi : xs[i]? = some (xs.getD i .bot) := by simp [hs.1]
    obtain ⟨u, hu, hxu⟩ := RVl_get r1' i _ hxi
    obtain ⟨v', hrun, hyv⟩ := load_sound (c := s.ctx E w η) (off := off) (b := b) r2 r5 hu hxu hy hs.2 hc
    exact ⟨_, _, hv, hrun, hyv⟩
  · cases hq

def rread (tmps : Array Value) : ResultVar → Sem Value
  | .tmp t => pure (tmps.getD t undef)
  | .cell a t => do loadVar t (← asAddr (tmps.getD a undef))
theorem results_eq (fn : Func) (tmps : Array Value) : results fn tmps = (do
    let vs ← fn.results.mapM (rread tmps)
    pure (if h : vs.size = 1 then vs[0] else .tuple vs)) := by
  unfold results
  congr 1

theorem resVs_sound {s : St} {a : Act} {w : World} {η : Nat → Value} (hr : Rel E s.F a w η) : ∀ (rs : List ResultVar) (x : List V × Prop), resVs P s rs = some x → x.2 →
    ∃ us : List Value, (rs.mapM (rread a.tmps)).run P w = .ok us w ∧ RVl (s.F.ctx E w η) x.1 us
  | [], x, h, hs => by
    simp only [resVs, Option.some.injEq] at h
    subst h
    exact ⟨[], by simp, by simp [RVl]⟩
  | r :: rs, x, h, hs => by
    simp only [resVs] at h
    obtain ⟨y, hy, h⟩ := Option.bind_eq_some_iff.1 h
    obtain ⟨z, hz, rfl⟩ := Option.map_eq_some_iff.1 h
    obtain ⟨us, h1, h2⟩ := resVs_sound hr rs z hz hs.2
    cases r with
    | tmp t =>
      simp only [resV, Option.some.injEq] at hy
      subst hy
      refine ⟨a.tmps.getD t undef :: us, ?_, ?_⟩
      · simp [List.mapM_cons, rread, h1]
      · simp only [RVl]
        exact ⟨_, _, rfl, hr.slots t, h2⟩
    | cell t T =>
      simp only [resV] at hy
      obtain ⟨q, hq, rfl⟩ := Option.map_eq_some_iff.1 hy
      obtain ⟨ad, u, e1, e2, e3⟩ := ld_sound hr hq hs.1.1 hs.1.2 (hr.slots t)
      refine ⟨u :: us, ?_, ?_⟩
      · have e4 : (asAddr (Value.pointer (some ad))).run P w = .ok ad w := by simp [asAddr]
        simp [List.mapM_cons, rread, h1, e1, e2, e4]
      · simp only [RVl]
        exact ⟨_, _, rfl, e3, h2⟩

theorem results_sound {s : St} {a : Act} {w : World} {η : Nat → Value} (hr : Rel E s.F a w η) {fn : Func} {x : List V × Prop} (hx : resVs P s fn.results.toList = some x) (hs : x.2) :
    ∃ v, (results fn a.tmps).run P w = .ok v w ∧ RV (s.F.ctx E w η) (oneV x.1) v := by
  obtain ⟨us, h1, h2⟩ := resVs_sound hr _ _ hx hs
  have h3 : (results fn a.tmps).run P w = .ok (if h : us.toArray.size = 1 then us.toArray[0] else .tuple us.toArray) w := by
    rw [results_eq, Array.mapM_eq_mapM_toList]
    simp [h1]
  refine ⟨_, h3, ?_⟩
  match x, us, h2 with
  | ([], _), us, h2 =>
    simp only [RVl] at h2; subst h2
    simp only [oneV, RV]; exact ⟨_, rfl, by simp [RVl]⟩
  | ([y], _), us, h2 =>
    simp only [RVl] at h2
    obtain ⟨u, _, rfl, h2, rfl⟩ := h2
    simpa [oneV] using h2
  | (y :: z :: r, _), us, h2 =>
    have h4 := h2
    simp only [RVl] at h2
    obtain ⟨u, _, rfl, h2, v, q, rfl, _⟩ := h2
    simp only [oneV, RV]; exact ⟨_, rfl, by simpa using h4⟩

theorem look_zip (args : List V) : ∀ (k t : Nat), look ((List.range' k args.length).zip args) t = if k ≤ t then args[t - k]? else none := by
  induction args with
  | nil => intro k t; simp [look]
  | cons x r ih =>
    intro k t
    simp only [List.length_cons, List.range'_succ, List.zip_cons_cons, look, ih]
    by_cases h : t = k
    · subst h; simp
    · simp only [h, if_false]
      by_cases h1 : k ≤ t
      · have h2 : k + 1 ≤ t := by omega
        simp only [h1, h2, if_true]
        rw [show t - k = (t - (k + 1)) + 1 by omega]; simp
      · have h2 : ¬ k + 1 ≤ t := by omega
        simp [h1, h2]

/-- The marks are come to, one by one, when the function is left. -/
theorem leave_marks {s : FSt} {η : Nat → Value} {fn : Func} {R : Ending → World → Prop} (tmps : Array Value) : ∀ (l : List Deferred) (w : World), (∀ p ∈ E.fix, ∀ q, p.2 ≠ .deferred q) → Rel E s { tmps := tmps, defers := l } w η →
    (∀ w', Rel E s { tmps := tmps, defers := [] } w' η → ∃ v, (results fn tmps).run P w' = .ok v w' ∧ R (.returned v) w') → LeavesInM Fence.wide 0 P fn tmps R l .returning w
  | [], w, _, hr, h => h w hr
  | d :: r, w, hf, hr, h => by
    obtain ⟨⟨D, h1, h2, h3, h4⟩, h5⟩ := hr.defers.marks
    refine ⟨by simp, .inl ⟨D, _, by rw [h1], run_takeDeferred h3, ?_⟩⟩
    refine leave_marks tmps r _ hf (hr.turn (E' := E) (o' := .deferred none) h2 h3 rfl rfl hr.ghost rfl ⟨fun p hp => ⟨?_, (hr.defers.fix p hp).2⟩, ?_⟩) h
    · have h6 := (hr.defers.fix p hp).1
      rw [putO_other fun e => ?_]
      · exact h6
      · rw [e, h3] at h6
        exact hf p hp _ (Option.some.inj h6).symm
    have key : ∀ (l : List Deferred), (∀ d' ∈ l, d' ≠ { target := .collected D, args := #[] }) → Marks E.w0.heap.size w l → Marks E.w0.heap.size (putO w D (.deferred none)) l := by
      intro l
      induction l with
      | nil => intro _ _; simp [Marks]
      | cons d2 l ih =>
        intro hn hm
        simp only [Marks] at hm ⊢
        obtain ⟨⟨D2, g1, g2, g3, g4⟩, g5⟩ := hm
        refine ⟨⟨D2, g1, g2, ?_, g4⟩, ih (fun d' hd => hn d' (by simp [hd])) g5⟩
        rw [putO_other fun e => hn d2 (by simp) (by rw [g1, e])]
        exact g3
    exact key r h4 h5

theorem calls_of_marks {f : FuncId} {fn : Func} {c : Code} {args : Array Value} {w : World} {R : Ending → World → Prop} (hf : P.funcs[f]? = some fn) (hb : fn.body = some c)
    (h : c.wp P (fun e a' w' => (e = .normal ∨ e = .ret) ∧ LeavesInM Fence.wide 0 P fn a'.tmps R a'.defers .returning w') { tmps := args ++ Array.replicate (fn.ntmps - args.size) undef, defers := [] } w) : Calls P f args w R := by
  refine callsIn_wide.1 (callsIn_of_wp_marks (F := Fence.wide) (n := 0) hf hb trivial (wpIn_wide.2 (wp_mono h ?_)))
  rintro e a' w' ⟨he, h⟩
  rcases he with rfl | rfl
  · exact h
  · exact h

theorem enter_of {f : FuncId} {fn : Func} {c : Code} {args : List V} {F : Exit → St → Prop} {R : Value → World → Prop} {gl : Globs} (hm : P.follows .mixedOrders = true) (hf : P.funcs[f]? = some fn) (hb : fn.body = some c) (hN : args.length ≤ fn.ntmps)
    (h : wfs args → ∀ E, aev P E c (St.init args fn.ntmps gl) F) (w : World) (O : Nat → Prop) (cargs : Array Value) (hO : ∀ b, O b → b < w.heap.size) (hargs : RVl (dctx w O) args cargs.toList) (hgl : GlobW w O gl)
    (hF : ∀ e s', F e s' → (e = .normal ∨ e = .ret) ∧ ∃ x, resVs P s' fn.results.toList = some x ∧ x.2 ∧ ∀ (E : Entry) (a' : Act) (w' : World) (η' : Nat → Value) (v : Value), E.w0 = w → E.base = O → (∀ b, ¬ E.own0 b) → Rel E s'.F a' w' η' → RV (s'.F.ctx E w' η') (oneV x.1) v → R v w') :
    Calls P f cargs w fun e w' => ∃ v, e = .returned v ∧ R v w' ∧ w.grownBy w' none := by
  let E : Entry := ⟨w, fun _ => False, O, fun b hb => ⟨hO b hb, fun h => h⟩, 0, fun _ => none, fun _ => .nilFunc, [], []⟩
  have hlen := RVl_length hargs
  have hwf := RVl_wf _ _ hargs
  refine calls_of_marks hf hb ?_
  have hr : Rel E (St.init args fn.ntmps gl).F { tmps := cargs ++ Array.replicate (fn.ntmps - cargs.size) undef, defers := [] } w (fun _ => .nilFunc) := by
    have hlen' : cargs.size = args.length := by simpa using hlen
    refine ⟨fun t => ?_, ⟨fun id o ho => by simp [FSt.ctx, St.F, St.init, look] at ho, fun id id' o o' b ho => by simp [FSt.ctx, St.F, St.init, look] at ho⟩, ⟨rfl, rfl, rfl, Nat.le_refl _, fun _ _ _ => rfl⟩,
      fun b hb => ?_, ?_, ⟨(fun p hp => nomatch hp), trivial⟩, ⟨rfl, fun i hi => absurd hi (Nat.not_lt_zero i)⟩, fun g p hp => ?_, fun p hp => nomatch hp⟩
    · have hget : (St.init args fn.ntmps gl).F.sl t = (args[t]?).getD .bot := by
        simp only [St.F, St.get, St.init]
        rw [List.range_eq_range', look_zip]; simp
      rw [hget]
      cases ht : args[t]? with
      | none => simp only [Option.getD_none, RV]; rfl
      | some x =>
        obtain ⟨u, hu, hx⟩ := RVl_get hargs t x ht
        have ht' : t < cargs.size := by rw [hlen']; exact (List.getElem?_eq_some_iff.1 ht).1
        have hv : (cargs ++ Array.replicate (fn.ntmps - cargs.size) undef).getD t undef = u := by
          have h1 : cargs[t]? = some u := by simpa using hu
          rw [Array.getElem?_eq_getElem ht'] at h1
          simp only [Option.some.injEq] at h1
          simp [Array.getElem?_append, ht', h1]
        rw [hv]
        have hO' : ((St.init args fn.ntmps gl).F.ctx E w fun _ => .nilFunc).O = O := by
          funext b
          simp only [FSt.ctx]
          refine propext ⟨fun h => ?_, .inl⟩
          rcases h with h | ⟨id, o, ho, _⟩
          · exact h
          · simp [St.F, St.init, look] at ho
        have := RV_ofD (c := (St.init args fn.ntmps gl).F.ctx E w fun _ => .nilFunc) rfl x u (by rw [hO']; exact hx)
        exact this
    · obtain ⟨id, o, ho, _⟩ := hb
      simp [St.F, St.init, look] at ho
    · simp [St.F, St.init]; omega
    · have hmem : ∀ {l : Globs}, look l g = some p → (g, p) ∈ l := by
        intro l
        induction l with
        | nil => intro h; simp [look] at h
        | cons q l ih =>
          intro h
          obtain ⟨q1, q2⟩ := q
          simp only [look] at h
          split at h
          · rename_i hi; cases h; subst hi; simp
          · exact List.mem_cons_of_mem _ (ih h)
      have h1 := hgl (g, p) (hmem hp)
      have hO' : ((St.init args fn.ntmps gl).F.ctx E w fun _ => .nilFunc).O = O := by
        funext b
        simp only [FSt.ctx]
        refine propext ⟨fun h => ?_, .inl⟩
        rcases h with h | ⟨id, o, ho, _⟩
        · exact h
        · simp [St.F, St.init, look] at ho
      exact RV_ofD (c := (St.init args fn.ntmps gl).F.ctx E w fun _ => .nilFunc) rfl _ _ (by rw [hO']; exact h1)
  have hw := aev_sound hm c _ _ (h hwf E) _ w _ hr
  refine wp_mono hw ?_
  rintro e a' w' ⟨s', η', hq, hr'⟩
  obtain ⟨he, x, hx, hq, hR⟩ := hF e s' hq
  refine ⟨he, leave_marks a'.tmps a'.defers w' (fun p hp => by simp [E] at hp) hr' fun w2 hr2 => ?_⟩
  have hg : w.grownBy w2 none := ⟨hr2.since.os, hr2.since.tape, hr2.since.output, hr2.since.size, fun b hb _ => hr2.since.block b hb (fun h => h)⟩
  obtain ⟨v, h1, h2⟩ := results_sound hr2 hx hq
  exact ⟨v, h1, v, rfl, hR E _ w2 η' v rfl rfl (fun _ h => h) hr2 h2, hg⟩

theorem fnD_of {f : FuncId} {fn : Func} {c : Code} {args : List V} {res : V} {gl : Globs} (hm : P.follows .mixedOrders = true) (hf : P.funcs[f]? = some fn) (hb : fn.body = some c) (hn : (fn.name == "runtime.NumGoroutine") = false) (hN : args.length ≤ fn.ntmps)
    (h : wfs args → ∀ E, aev P E c (St.init args fn.ntmps gl) (Fin P fn res)) : FnD P f args res gl := by
  refine ⟨⟨fn, hf, by simp [hb], hn⟩, fun w O cargs hO hargs hgl => enter_of hm hf hb hN h w O cargs hO hargs hgl fun e s' he => ?_⟩
  have key : (∃ x, resVs P s' fn.results.toList = some x ∧ x.2 ∧ argLe (look s'.hp) (fun _ => True) V.pure 8 (oneV x.1) res) → ∃ x, resVs P s' fn.results.toList = some x ∧ x.2 ∧ ∀ (E : Entry) (a' : Act) (w' : World) (η' : Nat → Value) (v : Value), E.w0 = w → E.base = O → (∀ b, ¬ E.own0 b) → Rel E s'.F a' w' η' → RV (s'.F.ctx E w' η') (oneV x.1) v → RV (dctx w' O) res v := by
    rintro ⟨x, h1, h2, h3⟩
    refine ⟨x, h1, h2, fun E a' w' η' v e1 e2 e3 hr' hv => argLe_sound (c := s'.F.ctx E w' η') (c' := dctx w' O) hr'.laid rfl rfl (fun x v hp hx => ?_) (fun id ob b _ hid hg hOb => ?_) 8 _ _ _ h3 hv⟩
    · have h4 := RV_pure x v hp hx
      exact RV_keep (c := { s'.F.ctx E w' η' with data := true }) (c' := dctx w' O) ⟨Nat.le_refl _, fun _ _ _ _ => rfl, fun b _ hb => .inl (by rw [e2]; exact hb), rfl, by simp [dctx, FSt.ctx], by simp [FSt.ctx]⟩ x v h4
    · have hl := hr'.laid.obj id ob hid
      by_cases hk : ob.k = .ro
      · exact hl.ro hk b hg (.inl (by rw [e2]; exact hOb))
      · rcases hr'.fresh b ⟨id, ob, hid, hk, hg⟩ with h | h
        · exact e3 b h
        · rw [e1] at h
          have := hO b hOb
          omega
  cases e with
  | normal => exact ⟨.inl rfl, key he⟩
  | ret => exact ⟨.inr rfl, key he⟩
  | _ => exact he.elim

theorem fnF_of {f : FuncId} {fn : Func} {c : Code} {args : List V} {res : V} {gl : Globs} (hm : P.follows .mixedOrders = true) (hf : P.funcs[f]? = some fn) (hb : fn.body = some c) (hn : (fn.name == "runtime.NumGoroutine") = false) (hN : args.length ≤ fn.ntmps)
    (h : wfs args → ∀ E, aev P E c (St.init args fn.ntmps gl) (FinF P fn res)) : FnF P f args res gl := by
  refine ⟨⟨fn, hf, by simp [hb], hn⟩, fun w O cargs hO hargs hgl => enter_of hm hf hb hN h w O cargs hO hargs hgl fun e s' he => ?_⟩
  have key : (∃ x, resVs P s' fn.results.toList = some x ∧ x.2 ∧ argLe (look s'.hp) (fun id => ∀ ob, look s'.hp id = some ob → ob.k ≠ .ro) V.noRef 8 (oneV x.1) res) → ∃ x, resVs P s' fn.results.toList = some x ∧ x.2 ∧ ∀ (E : Entry) (a' : Act) (w' : World) (η' : Nat → Value) (v : Value), E.w0 = w → E.base = O → (∀ b, ¬ E.own0 b) → Rel E s'.F a' w' η' → RV (s'.F.ctx E w' η') (oneV x.1) v → RV (dctx w' fun b => b < w.heap.size) res v := by
    rintro ⟨x, h1, h2, h3⟩
    refine ⟨x, h1, h2, fun E a' w' η' v e1 e2 e3 hr' hv => argLe_sound (c := s'.F.ctx E w' η') (c' := dctx w' fun b => b < w.heap.size) hr'.laid rfl rfl (fun x v hp hx => RV_noRef x v hp hx) (fun id ob b hB hid hg hOb => ?_) 8 _ _ _ h3 hv⟩
    rcases hr'.fresh b ⟨id, ob, hid, hB ob hid, hg⟩ with h | h
    · exact e3 b h
    · rw [e1] at h
      have hOb' : b < w.heap.size := hOb
      omega
  cases e with
  | normal => exact ⟨.inl rfl, key he⟩
  | ret => exact ⟨.inr rfl, key he⟩
  | _ => exact he.elim

/-! ## a function by reference -/
def Le (s s' : St) : Prop := ∀ (E : Entry) (a : Act) (w : World) (η : Nat → Value), Rel E s.F a w η → ∃ η', Rel E s'.F a w η'

def obsL (k : Nat) (l : List Obj) : List (Nat × Obj) := (List.range' k l.length).zip l
def St.start (obs : List Obj) (args : List V) (N : Nat) (gl : Globs) : St := ⟨(List.range args.length).zip args, obsL 0 obs, 16, [], N, obs.length, gl⟩
def St.out (nb : Nat) (obs : List Obj) (res : V) (gl : Globs) : St := ⟨[(0, res)], obsL 0 obs, obs.length, [], 1, nb, gl⟩
def St.res (s : St) (v : V) : St := ⟨[(0, v)], s.hp, s.nx, s.ex, 1, s.nb, s.gl⟩

theorem look_obsL (l : List Obj) : ∀ (k t : Nat), look (obsL k l) t = if k ≤ t then l[t - k]? else none := by
  induction l with
  | nil => intro k t; simp [obsL, look]
  | cons x r ih =>
    intro k t
    have : obsL k (x :: r) = (k, x) :: obsL (k + 1) r := by simp [obsL, List.range'_succ]
    rw [this]
    simp only [look, ih]
    by_cases h : t = k
    · subst h; simp
    · simp only [h, if_false]
      by_cases h1 : k ≤ t
      · have h2 : k + 1 ≤ t := by omega
        simp only [h1, h2, if_true]
        rw [show t - k = (t - (k + 1)) + 1 by omega]; simp
      · have h2 : ¬ k + 1 ≤ t := by omega
        simp [h1, h2]

/-- The end of a function by reference. -/
def FinR (P : Program) (fn : Func) (nb : Nat) (obs' : List Obj) (res : V) (gl : Globs) (e : Exit) (s : St) : Prop :=
  match e with
  | .normal | .ret => ∃ x, resVs P s fn.results.toList = some x ∧ x.2 ∧ Le (s.res (oneV x.1)) (St.out nb obs' res gl)
  | _ => False

theorem calls_ref {E : Entry} {f : FuncId} {fn : Func} {c : Code} {obs : List Obj} {args : List V} {obs' : List Obj} {res : V} {gl : Globs} (hf : P.funcs[f]? = some fn) (hb : fn.body = some c) (hN : args.length ≤ fn.ntmps) (ho : obs.length ≤ 16)
    (hfix : ∀ p ∈ E.fix, ∀ q, p.2 ≠ .deferred q) (h : wfs args → AW P E c (St.start obs args fn.ntmps gl) (FinR P fn obs.length obs' res gl)) {cargs : Array Value} {η : Nat → Value} {w0 : World} (hr0 : Rel E (inF obs args gl) { tmps := cargs, defers := [] } w0 η) :
    Calls P f cargs w0 fun e w' => ∃ v η', e = .returned v ∧ Rel E (outF obs.length obs' res gl) { tmps := #[v], defers := [] } w' η' := by
  have hlen : cargs.size = args.length := hr0.tmps
  have hargs : RVl ((inF obs args gl).ctx E w0 η) args cargs.toList := by
    refine RVl_of_get (by simpa using hlen) fun i x u hx hu => ?_
    have := hr0.slots i
    have h1 : (inF obs args gl).sl i = x := by simp [inF, hx]
    have h2 : cargs.getD i undef = u := by
      have : cargs[i]? = some u := by simpa using hu
      rw [Array.getD_eq_getD_getElem?, this]; rfl
    rw [h1] at this
    have h3 : ({ tmps := cargs, defers := [] } : Act).tmps.getD i undef = u := h2
    rw [h3] at this
    exact this
  have hwf := RVl_wf _ _ hargs
  refine calls_of_marks hf hb ?_
  have hhp : look (obsL 0 obs) = fun i => obs[i]? := by funext t; rw [look_obsL]; simp
  have hr1 := hr0.more (kn' := fun i => i < 16 ∨ i ∈ []) (fun i hi => .inl (Nat.lt_of_lt_of_le hi ho))
  have hr : Rel E (St.start obs args fn.ntmps gl).F { tmps := cargs ++ Array.replicate (fn.ntmps - cargs.size) undef, defers := [] } w0 η := by
    have hF : (St.start obs args fn.ntmps gl).F = { ({ inF obs args gl with kn := fun i => i < 16 ∨ i ∈ [] } : FSt) with N := fn.ntmps } := by
      have hs : (St.start obs args fn.ntmps gl).get = (inF obs args gl).sl := by
        funext t
        simp only [St.get, St.start, inF]
        rw [List.range_eq_range', look_zip]; simp
      simp only [St.F, hs]
      simp only [St.start, hhp]
      rfl
    rw [hF]
    refine ⟨fun t => ?_, hr1.laid, hr1.since, hr1.fresh, by simp; omega, ⟨hr1.defers.fix, hr1.defers.marks⟩, ⟨hr1.held.nb, hr1.held.at_⟩, hr1.glob, hr1.ghost⟩
    have h1 := hr1.slots t
    by_cases ht : t < cargs.size
    · have : (cargs ++ Array.replicate (fn.ntmps - cargs.size) undef).getD t undef = cargs.getD t undef := by
        simp [Array.getElem?_append, ht]
      show RV _ _ ((cargs ++ Array.replicate (fn.ntmps - cargs.size) undef).getD t undef)
      rw [this]; exact h1
    · have : (inF obs args gl).sl t = .bot := by
        simp only [inF]
        rw [List.getElem?_eq_none (by omega)]; rfl
      show RV _ ((inF obs args gl).sl t) _
      rw [this]
      simp only [RV]; rfl
  refine wp_mono (h hwf _ _ _ hr) ?_
  rintro e a' w' ⟨s', η', hq, hr'⟩
  have key : (∃ x, resVs P s' fn.results.toList = some x ∧ x.2 ∧ Le (s'.res (oneV x.1)) (St.out obs.length obs' res gl)) → LeavesInM Fence.wide 0 P fn a'.tmps (fun e w'' => ∃ v' η'', e = .returned v' ∧ Rel E (outF obs.length obs' res gl) { tmps := #[v'], defers := [] } w'' η'') a'.defers .returning w' := by
    rintro ⟨x, hx, hs, hle⟩
    refine leave_marks a'.tmps a'.defers w' hfix hr' fun w2 hr2 => ?_
    obtain ⟨v, h1, h2⟩ := results_sound hr2 hx hs
    obtain ⟨η'', h3⟩ := hle E { tmps := #[v], defers := [] } w2 η' ⟨fun t => by
      show RV (s'.F.ctx E w2 η') ((look [(0, oneV x.1)] t).getD .bot) (#[v].getD t undef)
      simp only [look]
      by_cases ht : t = 0
      · subst ht; simpa using h2
      · simp only [ht, if_false, Option.getD_none, RV]; rfl, hr2.laid, hr2.since, hr2.fresh, rfl, ⟨hr2.defers.fix, hr2.defers.marks⟩, ⟨hr2.held.nb, hr2.held.at_⟩, hr2.glob, hr2.ghost⟩
    refine ⟨v, h1, v, η'', rfl, ?_⟩
    have hF : (St.out obs.length obs' res gl).F = outF obs.length obs' res gl := by
      have hs : (St.out obs.length obs' res gl).get = (outF obs.length obs' res gl).sl := by
        funext t
        simp only [St.get, St.out, outF, look]
        by_cases ht : t = 0 <;> simp [ht]
      have hh : look (obsL 0 obs') = fun i => obs'[i]? := by funext t; rw [look_obsL]; simp
      have hk : (fun i => i < obs'.length ∨ i ∈ ([] : List Nat)) = fun i => i < obs'.length := by funext i; simp
      simp only [St.F, hs]
      simp only [St.out, hh, hk]
      rfl
    rw [← hF]; exact h3
  cases e with
  | normal => exact ⟨.inl rfl, key hq⟩
  | ret => exact ⟨.inr rfl, key hq⟩
  | _ => exact hq.elim

theorem fnR_of {f : FuncId} {fn : Func} {c : Code} {obs : List Obj} {args : List V} {obs' : List Obj} {res : V} {gl : Globs} (hm : P.follows .mixedOrders = true) (hf : P.funcs[f]? = some fn) (hb : fn.body = some c) (hn : (fn.name == "runtime.NumGoroutine") = false) (hN : args.length ≤ fn.ntmps) (ho : obs.length ≤ 16)
    (h : wfs args → ∀ E, aev P E c (St.start obs args fn.ntmps gl) (FinR P fn obs.length obs' res gl)) : FnR P f obs args obs' res gl :=
  ⟨⟨fn, hf, by simp [hb], hn⟩, fun E cargs η _ _ _ _ hfix _ hr0 => calls_ref hf hb hN ho (by rw [hfix]; intro p hp; cases hp) (fun hwf => aev_sound hm c _ _ (h hwf E)) hr0⟩
end
end Go.AM
