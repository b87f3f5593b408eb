/- Each operation's step against the model: the proofs. -/
import Derived.Test.YtdeionjkcmpnpaaDoorAmIstep
set_option linter.unusedSimpArgs false
set_option linter.unusedVariables false
namespace Go.AM
open Go.RowKit

section
variable {P : Program} {E : Entry} {s : FSt} {a : Act} {w : World} {η : Nat → Value} {o : Oper}

theorem ev_sound (hr : Rel E s a w η) (x : Operand) : RV (s.ctx E w η) (s.ev x) (a.eval x) := by
  cases x with
  | tmp t => exact hr.slots t
  | const v => exact cst_RV rfl v
  | global g =>
    simp only [FSt.ev]
    split
    · rename_i p hp; exact hr.glob g p hp
    · simp only [RV]; rfl
  | func f => simp only [FSt.ev, RV]; exact ⟨#[], #[], rfl, by simp [RVl], by simp [RVl]⟩

theorem has_wrap (k : IntKind) (n : Int) : k.has (k.wrap n) := by
  unfold IntKind.has IntKind.wrap IntKind.min IntKind.max
  cases k <;> simp only [IntKind.bits, IntKind.signed] <;> simp <;> (try split) <;> omega

theorem exec_v {a : Act} {o : Oper} {m : Sem Value} {v : Value} {w w' : World} (h : execOp a.eval o = (do pure (.value (← m)))) (hm : m.run P w = .ok v w') : (execOp a.eval o).run P w = .ok (.value v) w' := by
  rw [h]; simp [hm]

theorem s_move (hr : Rel E s a w η) {x : Operand} (ho : o.op = .move x ∨ o.op = .assign x) : Done P E s a w o ⟨s.ev x, [], []⟩ :=
  Done.val hr (ev_sound hr x) (by unfold execOp; rcases ho with ho | ho <;> simp [ho])

theorem s_extract (hr : Rel E s a w η) {x : Operand} {i : Nat} (ho : o.op = .extract x i) {vs : List V} {y : V} (hx : s.ev x = .tup vs) (hy : vs[i]? = some y) : Done P E s a w o ⟨y, [], []⟩ := by
  have h := ev_sound hr x
  rw [hx] at h
  simp only [RV] at h
  obtain ⟨cv, hv, h1⟩ := h
  obtain ⟨u, hu, hyu⟩ := RVl_get h1 i y hy
  refine Done.val hr hyu ?_
  unfold execOp
  have : cv[i]? = some u := by simpa using hu
  simp [ho, hv, Instr.extract, this]

theorem s_index_str (hr : Rel E s a w η) {T : Nat} {x i : Operand} (ho : o.op = .index T x i) (hT : P.underlying T = some .string) {st : ByteArray} {k : IntKind} {n : Int} (hx : s.ev x = .str st) (hi : s.ev i = .int k n) (h0 : 0 ≤ n) (h1 : n.toNat < st.size) :
    Done P E s a w o ⟨.int .u8 (byteAt st n.toNat), [], []⟩ := by
  have h := ev_sound hr x
  rw [hx] at h
  simp only [RV] at h
  have h2 := ev_sound hr i
  rw [hi] at h2
  simp only [RV] at h2
  have hb : byteAt st n.toNat = st[n.toNat].toNat := by
    unfold byteAt
    have : n.toNat < st.data.size := h1
    simp only [Array.getD]
    rw [dif_pos this]
    rfl
  refine Done.val hr (v := .int .u8 (byteAt st n.toNat)) ?_ ?_
  · simp only [RV]
    rw [hb]
    have := st[n.toNat].toNat_lt
    refine ⟨by trivial, ?_⟩
    have e1 : IntKind.u8.min = 0 := by decide
    have e2 : IntKind.u8.max = 255 := by decide
    unfold IntKind.has
    rw [e1, e2]
    omega
  · unfold execOp
    have hg : st[n.toNat]? = some st[n.toNat] := by simp [h1]
    simp [ho, h, h2.1, Instr.index, asIntOf, run_underlying hT, h0, hg, hb]

theorem s_field (hr : Rel E s a w η) {x : Operand} {T f off ft : Nat} (ho : o.op = .field T x f) {cs : List V} {y : V} (hf : fldOf P T f = some (off, ft)) (hx : s.ev x = .agg cs)
    (hy : partV P ft (.agg cs) off = some y) (hc : 0 < P.cellsOf ft) : Done P E s a w o ⟨y, [], []⟩ := by
  have h := ev_sound hr x
  rw [hx] at h
  have h' := h
  simp only [RV] at h
  obtain ⟨cv, hv, h1, h2⟩ := h
  have hl := RVl_length h1
  unfold fldOf at hf
  cases hu : P.underlying T with
  | none => simp [hu] at hf
  | some d =>
    cases d <;> simp only [hu, reduceCtorEq] at hf
    rename_i fs
    cases hff : fs[f]? with
    | none => simp [hff] at hf
    | some fd =>
      simp only [hff, Option.map_some, Option.some.injEq, Prod.mk.injEq] at hf
      obtain ⟨rfl, rfl⟩ := hf
      unfold partV at hy
      cases hrow : isRowT P fd.type with
      | none => simp [hrow] at hy
      | some r =>
        have hra := isRow_run (P := P) hrow w
        cases r with
        | false =>
          simp only [hrow, V.cl] at hy
          obtain ⟨u, hu1, hyu⟩ := RVl_get h1 _ y hy
          refine Done.val hr hyu ?_
          unfold execOp
          have : cv[fd.offset]? = some u := by simpa using hu1
          simp [ho, hv, Instr.field, run_underlying hu, hff, asAgg, part, hra, this]
        | true =>
          simp only [hrow, V.cl] at hy
          have hrun : (execOp a.eval o).run P w = .ok (.value (.agg (cv.extract fd.offset (fd.offset + P.cellsOf fd.type)))) w := by
            unfold execOp
            simp [ho, hv, Instr.field, run_underlying hu, hff, asAgg, part, hra, cellsOf_run hc]
          refine Done.val hr ?_ hrun
          split at hy
          · rename_i hw
            cases hy
            have : cv.extract fd.offset (fd.offset + P.cellsOf fd.type) = cv := by
              rw [hw.1, Nat.zero_add, ← hw.2]
              have : cs.length = cv.size := by simpa using hl.symm
              rw [this]; simp
            rw [this, ← hv]; exact h'
          · split at hy
            · cases hy
              simp only [RV]
              refine ⟨_, rfl, ?_, fun u hu => ?_⟩
              · have : (cv.extract fd.offset (fd.offset + P.cellsOf fd.type)).toList = (cv.toList.drop fd.offset).take (P.cellsOf fd.type) := by
                  simp [List.extract_eq_take_drop]
                rw [this]
                exact RVl_take _ (RVl_drop _ h1)
              · have : (cv.extract fd.offset (fd.offset + P.cellsOf fd.type)).toList = (cv.toList.drop fd.offset).take (P.cellsOf fd.type) := by
                  simp [List.extract_eq_take_drop]
                rw [this] at hu
                exact h2 u (List.mem_of_mem_drop (List.mem_of_mem_take hu))
            · cases hy

theorem s_pick (hr : Rel E s a w η) {c x y : Operand} (ho : o.op = .pick c x y) {t : Bool} (hc : s.ev c = .bool t) {q : Stp} (hp : pickV t (s.ev x) (s.ev y) = some q) (hs : q.side) : Done P E s a w o q.e := by
  have h0 := ev_sound hr c
  rw [hc] at h0
  simp only [RV] at h0
  have hx := ev_sound hr x
  have hy := ev_sound hr y
  have hrun : (execOp a.eval o).run P w = .ok (.value (if t then a.eval x else a.eval y)) w := by
    unfold execOp
    simp [ho, h0, asBool]
  generalize s.ev x = X at *
  generalize s.ev y = Y at *
  unfold pickV at hp
  split at hp <;> simp only [just, justIf, Option.some.injEq, reduceCtorEq] at hp <;> subst hp <;> refine Done.val hr ?_ hrun
  · simp only [RV] at hx hy ⊢; cases t <;> simp_all
  · simp only [RV] at hx hy ⊢
    simp only at hs
    cases t <;> simp_all
  · simp only [RV] at hx hy ⊢
    simp only at hs
    cases t <;> simp_all
  · simp only at hs; subst hs; simpa using hx
  · simp only at hs; subst hs; simpa using hy

theorem s_un (hr : Rel E s a w η) {op : UnOp} {T : TypeId} {x : Operand} (ho : o.op = .unOp op T x) {q : Stp} (hp : unS op (s.ev x) = some q) : Done P E s a w o q.e := by
  have hx := ev_sound hr x
  generalize s.ev x = X at *
  unfold unS at hp
  split at hp
  · rename_i k n
    simp only [RV] at hx
    cases op <;> simp only [just, Option.some.injEq, reduceCtorEq, bitsV, Option.map_some] at hp
    · subst hp
      refine Done.val hr (v := .int k (k.wrap (0 - n))) ?_ ?_
      · simp only [RV, true_and]; exact has_wrap k _
      · unfold execOp; simp [ho, hx.1, Op.unary, Op.intArith]
    · subst hp
      refine Done.val hr (v := .int k (k.wrap (BitVec.ofInt k.bits (if k.signed then -1 else k.max) ^^^ BitVec.ofInt k.bits n).toNat)) ?_ ?_
      · simp only [RV, true_and]; exact has_wrap k _
      · unfold execOp; simp [ho, hx.1, Op.unary, Op.intBits]
  · simp only [RV] at hx
    cases op <;> simp only [just, Option.some.injEq, reduceCtorEq] at hp
    rename_i b
    subst hp
    refine Done.val hr (v := .bool (!b)) (by simp only [RV]) ?_
    unfold execOp; simp [ho, hx, Op.unary]
  · cases hp

theorem has_fdiv {k : IntKind} {n : Int} (h : k.has n) (m : Nat) : k.has (n.fdiv (2 ^ m)) := by
  have hp : (0 : Int) < 2 ^ m := Int.pow_pos (by omega)
  have hmin : k.min ≤ 0 := by unfold IntKind.min; cases k <;> simp [IntKind.signed, IntKind.bits]
  have hmax : 0 ≤ k.max := by unfold IntKind.max; cases k <;> simp [IntKind.signed, IntKind.bits]
  rw [Int.fdiv_eq_ediv_of_nonneg _ (Int.le_of_lt hp)]
  obtain ⟨h1, h2⟩ := h
  by_cases hn : 0 ≤ n
  · have a := Int.ediv_nonneg hn (Int.le_of_lt hp)
    have b := Int.ediv_le_self (2 ^ m) hn
    exact ⟨by omega, by omega⟩
  · have a : n / 2 ^ m < 0 := Int.ediv_neg_of_neg_of_pos (by omega) hp
    have b : n ≤ n / 2 ^ m := by
      rw [Int.le_ediv_iff_mul_le hp]
      have := Int.mul_le_mul_of_nonpos_left (a := n) (by omega) (show (1 : Int) ≤ 2 ^ m by omega)
      omega
    exact ⟨by omega, by omega⟩

theorem has_tmod {k : IntKind} {n : Int} (h : k.has n) (m : Int) : k.has (n.tmod m) := by
  have hmin : k.min ≤ 0 := by unfold IntKind.min; cases k <;> simp [IntKind.signed, IntKind.bits]
  have hmax : 0 ≤ k.max := by unfold IntKind.max; cases k <;> simp [IntKind.signed, IntKind.bits]
  obtain ⟨h1, h2⟩ := h
  by_cases hn : 0 ≤ n
  · have a := Int.tmod_nonneg m hn
    have c : (n.tmod m).natAbs ≤ n.natAbs := by rw [Int.natAbs_tmod]; exact Nat.mod_le _ _
    exact ⟨by omega, by omega⟩
  · have c : (n.tmod m).natAbs ≤ n.natAbs := by rw [Int.natAbs_tmod]; exact Nat.mod_le _ _
    have d : n.tmod m ≤ 0 := by
      have := Int.tmod_nonneg m (a := -n) (by omega)
      rw [Int.neg_tmod] at this
      omega
    exact ⟨by omega, by omega⟩

theorem RV_bool {c : Ctx} {b : Bool} : RV c (.bool b) (.bool b) := by simp only [RV]

theorem eqCells_sound {c : Ctx} (w : World) (xv yv : Array Value) (d : Nat) : ∀ (fs : List Field) (k : Nat) (l : List Nat) (xs ys : List V) (b : Bool) (us vs : List Value), flatFs P k fs = some l → eqCells l xs ys = some b → RVl c xs us → RVl c ys vs →
    (∀ j : Nat, us[j]? = xv[k + j]?) → (∀ j : Nat, vs[j]? = yv[k + j]?) → (Op.eqFields (d + 1) xv yv fs).run P w = .ok b w := by
  intro fs
  induction fs with
  | nil =>
    intro k l xs ys b us vs hl he _ _ _ _
    simp only [flatFs, Option.some.injEq] at hl
    subst hl
    cases xs <;> cases ys <;> simp only [eqCells, Option.some.injEq, reduceCtorEq] at he
    subst he
    simp [Op.eqFields]
  | cons f fs ih =>
    intro k l xs ys b us vs hl he hx hy hu hv
    simp only [flatFs] at hl
    split at hl
    · rename_i hf
      obtain ⟨hn, ho⟩ := hf
      have step : ∀ (t : Nat) (l' : List Nat), flatFs P (k + 1) fs = some l' → (x y : V) → (xs' ys' : List V) → xs = x :: xs' → ys = y :: ys' → (u v : Value) → RV c x u → RV c y v → (q : Bool) → (b' : Bool) →
          u = us.headD undef → v = vs.headD undef → isRowT P f.type = some false → (∀ w, (Op.equalIn (d + 1) f.type u v).run P w = .ok q w) → eqCells l' xs' ys' = some b' → (Op.eqFields (d + 1) xv yv (f :: fs)).run P w = .ok (q && b') w := by
        intro t l' hl' x y xs' ys' ex ey u v _ _ q b' hu0 hv0 hrow heq he'
        subst ex; subst ey
        simp only [RVl] at hx hy
        obtain ⟨u1, r1, rfl, hxu, hxr⟩ := hx
        obtain ⟨v1, r2, rfl, hyv, hyr⟩ := hy
        simp at hu0 hv0
        subst hu0; subst hv0
        have a1 : xv[f.offset]? = some u := by have := hu 0; simp at this; rw [ho]; exact this.symm
        have a2 : yv[f.offset]? = some v := by have := hv 0; simp at this; rw [ho]; exact this.symm
        have ih' := ih (k + 1) l' xs' ys' b' r1 r2 hl' he' hxr hyr (fun j => by have := hu (j + 1); simpa [Nat.add_assoc, Nat.add_comm 1 j] using this) (fun j => by have := hv (j + 1); simpa [Nat.add_assoc, Nat.add_comm 1 j] using this)
        have p1 : (part f.type xv f.offset).run P w = .ok u w := by simp [part, isRow_run hrow, a1]
        have p2 : (part f.type yv f.offset).run P w = .ok v w := by simp [part, isRow_run hrow, a2]
        simp only [Op.eqFields, hn, ne_eq, not_false_eq_true, if_true, Sem.run_bind, p1, p2, Result.andThen_ok, heq]
        cases q
        · simp
        · simpa using ih'
      split at hl
      · rename_i l' ht hl'
        cases hl
        cases xs <;> cases ys <;> (try simp only [eqCells, reduceCtorEq] at he)
        rename_i x xs y ys
        cases x <;> cases y <;> simp only [eqCells, reduceCtorEq] at he
        rename_i p q
        obtain ⟨b', hb', rfl⟩ := Option.map_eq_some_iff.1 he
        have h1 := hx; have h2 := hy
        simp only [RVl, RV] at h1 h2
        obtain ⟨u1, r1, rfl, rfl, _⟩ := h1
        obtain ⟨v1, r2, rfl, rfl, _⟩ := h2
        exact step 0 l' hl' _ _ _ _ rfl rfl (.bool p) (.bool q) RV_bool RV_bool _ _ rfl rfl (by simp [isRowT, ht]) (fun w => run_equalIn_bool' w d _ p q ht) hb'
      · rename_i k1 l' ht hl'
        cases hl
        cases xs <;> cases ys <;> (try simp only [eqCells, reduceCtorEq] at he)
        rename_i x xs y ys
        cases x <;> cases y <;> simp only [eqCells, reduceCtorEq] at he
        rename_i ka p kb q
        split at he
        · rename_i hk
          subst hk
          obtain ⟨b', hb', rfl⟩ := Option.map_eq_some_iff.1 he
          have h1 := hx; have h2 := hy
          simp only [RVl, RV] at h1 h2
          obtain ⟨u1, r1, rfl, ⟨rfl, hp⟩, _⟩ := h1
          obtain ⟨v1, r2, rfl, ⟨rfl, hq⟩, _⟩ := h2
          exact step 0 l' hl' _ _ _ _ rfl rfl (.int ka p) (.int ka q) (by simp only [RV]; exact ⟨trivial, hp⟩) (by simp only [RV]; exact ⟨trivial, hq⟩) _ _ rfl rfl (by simp [isRowT, ht]) (fun w => run_equalIn_int w d _ ka _ p q ht) hb'
        · cases he
      · rename_i l' ht hl'
        cases hl
        cases xs <;> cases ys <;> (try simp only [eqCells, reduceCtorEq] at he)
        rename_i x xs y ys
        cases x <;> cases y <;> simp only [eqCells, reduceCtorEq] at he
        rename_i p q
        obtain ⟨b', hb', rfl⟩ := Option.map_eq_some_iff.1 he
        have h1 := hx; have h2 := hy
        simp only [RVl, RV] at h1 h2
        obtain ⟨u1, r1, rfl, rfl, _⟩ := h1
        obtain ⟨v1, r2, rfl, rfl, _⟩ := h2
        exact step 0 l' hl' _ _ _ _ rfl rfl (.string p) (.string q) (by simp only [RV]) (by simp only [RV]) _ _ rfl rfl (by simp [isRowT, ht]) (fun w => run_equalIn_string w d _ p q ht) hb'
      · cases hl
    · cases hl

theorem nil_slice_run {T e' : TypeId} (hT : P.underlying T = some (.slice e')) (a : Option Addr) (n c : Nat) (w : World) :
    (binOp .eql T (.slice a n c) (.slice none 0 0)).run P w = .ok (.bool a.isNone) w ∧ (binOp .neq T (.slice a n c) (.slice none 0 0)).run P w = .ok (.bool (!a.isNone)) w := by
  have h : ∀ d : Nat, (Op.equalIn (d + 1) T (.slice a n c) (.slice none 0 0)).run P w = .ok a.isNone w := fun d => by
    cases a <;> simp [Op.equalIn, run_underlying hT]
  constructor <;> simp [binOp, Op.equal, Op.maxDepth, h 9999]
theorem nil_ptr_run {T e' : TypeId} (hT : P.underlying T = some (.pointer e')) (a : Option Addr) (w : World) :
    (binOp .eql T (.pointer a) (.pointer none)).run P w = .ok (.bool a.isNone) w ∧ (binOp .neq T (.pointer a) (.pointer none)).run P w = .ok (.bool (!a.isNone)) w := by
  have h : ∀ d : Nat, (Op.equalIn (d + 1) T (.pointer a) (.pointer none)).run P w = .ok a.isNone w := fun d => by
    cases a <;> simp [Op.equalIn, run_underlying hT]
  constructor <;> simp [binOp, Op.equal, Op.maxDepth, h 9999]
theorem elem_und {T e' : TypeId} (h : elemOfT P T = some e') : P.underlying T = some (.slice e') := by
  unfold elemOfT at h
  split at h
  · rename_i e hu; cases h; exact hu
  · cases h
theorem ptr_und {T : TypeId} (h : ptrT P T = true) : ∃ e', P.underlying T = some (.pointer e') := by
  unfold ptrT at h
  split at h
  · exact ⟨_, by assumption⟩
  · cases h
theorem nilB_of {op : BinOp} {r t : Bool} {q : Stp} (h : nilB op r t = some q) : r = true ∧ ((op = .eql ∧ q.e = ⟨.bool t, [], []⟩) ∨ (op = .neq ∧ q.e = ⟨.bool (!t), [], []⟩)) := by
  unfold nilB at h
  split at h
  · simp only [just, Option.some.injEq] at h; subst h; exact ⟨rfl, .inl ⟨rfl, rfl⟩⟩
  · simp only [just, Option.some.injEq] at h; subst h; exact ⟨rfl, .inr ⟨rfl, rfl⟩⟩
  · cases h
theorem s_nil_slice (hr : Rel E s a w η) {op : BinOp} {T T' : TypeId} {x y : Operand} (ho : o.op = .binOp op T x y T') {ad : Option Addr} {n c : Nat} (hx : a.eval x = .slice ad n c) (hy : a.eval y = .slice none 0 0) {t : Bool} (ht : ad.isNone = t) {q : Stp}
    (hp : nilB op (elemOfT P T).isSome t = some q) : Done P E s a w o q.e := by
  obtain ⟨hT, hp⟩ := nilB_of hp
  obtain ⟨e', hT⟩ := Option.isSome_iff_exists.1 hT
  rcases hp with ⟨rfl, hq⟩ | ⟨rfl, hq⟩
  · rw [hq]
    exact Done.val hr (v := .bool t) RV_bool (by unfold execOp; simp [ho, hx, hy, eqGuard, (nil_slice_run (elem_und hT) ad n c w).1, ht])
  · rw [hq]
    exact Done.val hr (v := .bool (!t)) RV_bool (by unfold execOp; simp [ho, hx, hy, eqGuard, (nil_slice_run (elem_und hT) ad n c w).2, ht])
theorem s_nil_ptr (hr : Rel E s a w η) {op : BinOp} {T T' : TypeId} {x y : Operand} (ho : o.op = .binOp op T x y T') {ad : Option Addr} (hx : a.eval x = .pointer ad) (hy : a.eval y = .pointer none) {t : Bool} (ht : ad.isNone = t) {q : Stp}
    (hp : nilB op (ptrT P T) t = some q) : Done P E s a w o q.e := by
  obtain ⟨hT, hp⟩ := nilB_of hp
  obtain ⟨e', hu⟩ := ptr_und hT
  rcases hp with ⟨rfl, hq⟩ | ⟨rfl, hq⟩
  · rw [hq]
    exact Done.val hr (v := .bool t) RV_bool (by unfold execOp; simp [ho, hx, hy, eqGuard, (nil_ptr_run hu ad w).1, ht])
  · rw [hq]
    exact Done.val hr (v := .bool (!t)) RV_bool (by unfold execOp; simp [ho, hx, hy, eqGuard, (nil_ptr_run hu ad w).2, ht])
theorem s_bin (hr : Rel E s a w η) {op : BinOp} {T T' : TypeId} {x y : Operand} (ho : o.op = .binOp op T x y T') {q : Stp} (hp : binS P op T (s.ev x) (s.ev y) = some q) (hs : q.side) : Done P E s a w o q.e := by
  have hx := ev_sound hr x
  have hy := ev_sound hr y
  generalize s.ev x = X at *
  generalize s.ev y = Y at *
  unfold binS at hp
  split at hp
  · rename_i k m k' n
    simp only [RV] at hx hy
    obtain ⟨hx, hkx⟩ := hx
    obtain ⟨hy, hky⟩ := hy
    have fin : ∀ (v : Value) (V' : V), k.has m → RV (s.ctx E w η) V' v → (binOp op T (.int k m) (.int k' n)).run P w = .ok v w → Done P E s a w o ⟨V', [], []⟩ := fun v V' _ hv hrun =>
      Done.val hr hv (by unfold execOp; cases op <;> simp [ho, hx, hy, eqGuard, hrun])
    have hi : ∀ z : Int, RV (s.ctx E w η) (.int k (k.wrap z)) (.int k (k.wrap z)) := fun z => by simp only [RV, true_and]; exact has_wrap k z
    cases op <;> simp only [justIf, cmpV, bitsV, Option.map_some, Option.some.injEq] at hp
    all_goals (try subst hp)
    all_goals simp only at hs
    case shl => exact fin _ _ hkx (hi _) (by simp [binOp, Op.shift, show ¬ n < 0 by omega])
    case shr => exact fin (.int k (m.fdiv (2 ^ min n.toNat k.bits))) _ hkx (by simp only [RV, true_and]; exact has_fdiv hkx _) (by simp [binOp, Op.shift, show ¬ n < 0 by omega])
    case quo => obtain ⟨rfl, h0⟩ := hs; exact fin _ _ hkx (hi _) (by simp [binOp, Op.intDiv, h0])
    case rem => obtain ⟨rfl, h0⟩ := hs; exact fin (.int k (m.tmod n)) _ hkx (by simp only [RV, true_and]; exact has_tmod hkx _) (by simp [binOp, Op.intDiv, h0])
    all_goals subst hs
    case add => exact fin _ _ hkx (hi _) (by simp [binOp, Op.intArith])
    case sub => exact fin _ _ hkx (hi _) (by simp [binOp, Op.intArith])
    case mul => exact fin _ _ hkx (hi _) (by simp [binOp, Op.intArith])
    case and => exact fin _ _ hkx (hi _) (by simp [binOp, Op.intBits])
    case or => exact fin _ _ hkx (hi _) (by simp [binOp, Op.intBits])
    case xor => exact fin _ _ hkx (hi _) (by simp [binOp, Op.intBits])
    case andNot => exact fin _ _ hkx (hi _) (by simp [binOp, Op.intBits])
    all_goals exact fin (.bool _) _ hkx RV_bool (by simp [binOp, Op.intCmp])
  · rename_i p q'
    simp only [RV] at hx hy
    have fin : ∀ (v : Value) (V' : V), RV (s.ctx E w η) V' v → (binOp op T (.string p) (.string q')).run P w = .ok v w → Done P E s a w o ⟨V', [], []⟩ := fun v V' hv hrun =>
      Done.val hr hv (by unfold execOp; cases op <;> simp [ho, hx, hy, eqGuard, hrun])
    unfold strV at hp
    cases op <;> simp only [justIf, just, Option.some.injEq, reduceCtorEq] at hp
    all_goals subst hp
    all_goals simp only at hs
    case add => 
      refine fin (.string (p ++ q')) _ (by simp only [RV]) ?_
      have : ¬ ((p.size + q'.size : Nat) : Int) > IntKind.i64.max := by simp [IntKind.max, IntKind.signed, IntKind.bits]; omega
      simp only [binOp, Op.stringOp]
      rw [if_neg this]; rfl
    all_goals exact fin (.bool _) _ RV_bool (by simp [binOp, Op.stringOp])
  · rename_i p q'
    simp only [RV] at hx hy
    split at hp
    · rename_i hT
      simp only [just, Option.some.injEq] at hp; subst hp
      exact Done.val hr (v := .bool (p == q')) RV_bool (by unfold execOp; simp [ho, hx, hy, eqGuard, binOp, Op.equal, Op.maxDepth, run_equalIn_bool' w 9999 T p q' hT])
    · rename_i hT
      simp only [just, Option.some.injEq] at hp; subst hp
      exact Done.val hr (v := .bool (!(p == q'))) RV_bool (by unfold execOp; simp [ho, hx, hy, eqGuard, binOp, Op.equal, Op.maxDepth, run_equalIn_bool' w 9999 T p q' hT])
    · cases hp
  · simp only [RV] at hx hy
    exact s_nil_slice (t := true) hr ho hx hy rfl hp
  · simp only [RV] at hx hy
    obtain ⟨c, hx⟩ := hx
    exact s_nil_slice (t := true) hr ho hx hy rfl hp
  · simp only [RV] at hx hy
    obtain ⟨⟨ad, n, c, hx⟩, _⟩ := hx
    exact s_nil_slice (t := false) hr ho hx hy rfl hp
  · simp only [RV] at hx hy
    exact s_nil_ptr (t := true) hr ho hx hy rfl hp
  · simp only [RV] at hx hy
    obtain ⟨⟨ad, k, hx⟩, _⟩ := hx
    exact s_nil_ptr (t := false) hr ho hx hy rfl hp
  · rename_i xs ys
    simp only [RV] at hx hy
    obtain ⟨xv, hx, hxl, _⟩ := hx
    obtain ⟨yv, hy, hyl, _⟩ := hy
    have main : ∀ b, ((flatTys P T).bind fun l => eqCells l xs ys) = some b → (Op.equalIn 10000 T (.agg xv) (.agg yv)).run P w = .ok b w ∧ (eqGuard op T x y (.agg xv) (.agg yv)).run P w = .ok () w := by
      intro b hb
      obtain ⟨l, hl, he⟩ := Option.bind_eq_some_iff.1 hb
      unfold flatTys at hl
      split at hl
      · rename_i fs hu
        split at hl
        · rename_i hst
          have hfo : P.fieldsOf T = fs := by simp [Program.fieldsOf, hu]
          refine ⟨?_, run_eqGuard_agg w op T x y xv yv hst.2⟩
          rw [run_equalIn_agg w 9999 T xv yv (by rw [hfo]; exact hu) hst.1, hfo]
          exact eqCells_sound w xv yv 9998 fs.toList 0 l xs ys b xv.toList yv.toList hl he hxl hyl (by simp) (by simp)
        · cases hl
      · cases hl
    split at hp
    · rename_i b hb
      simp only [just, Option.some.injEq] at hp; subst hp
      obtain ⟨m1, m2⟩ := main _ hb
      exact Done.val hr (v := .bool b) RV_bool (by unfold execOp; simp [ho, hx, hy, m2, run_eql_struct, m1])
    · rename_i b hb
      simp only [just, Option.some.injEq] at hp; subst hp
      obtain ⟨m1, m2⟩ := main _ hb
      exact Done.val hr (v := .bool (!b)) RV_bool (by unfold execOp; simp [ho, hx, hy, m2, run_neq_struct, m1])
    · cases hp
  · cases hp
end
end Go.AM
