/- Each operation's step against the model: the proofs, memory. -/
import Derived.Test.YtdeionjkcmpnpaaDoorAmIsound
set_option linter.unusedSimpArgs false
set_option linter.unusedVariables false
namespace Go.AM
open Go.RowKit

section
variable {P : Program} {E : Entry} {s : FSt} {a : Act} {w : World} {η : Nat → Value} {o : Oper}

theorem s_conv (hr : Rel E s a w η) {src dst : TypeId} {x : Operand} (ho : o.op = .convert src dst x) {k k' kk : IntKind} {n : Int} (h1 : P.underlying src = some (.int k')) (h2 : P.underlying dst = some (.int k)) (hx : s.ev x = .int kk n) :
    Done P E s a w o ⟨.int k (k.wrap n), [], []⟩ := by
  have h := ev_sound hr x
  rw [hx] at h
  simp only [RV] at h
  refine Done.val hr (v := .int k (k.wrap n)) (by simp only [RV, true_and]; exact has_wrap k n) ?_
  unfold execOp
  simp [ho, h.1, convert, run_underlying h1, run_underlying h2, Conv.intToInt]

theorem evs_sound (hr : Rel E s a w η) : ∀ (l : List Operand), RVl (s.ctx E w η) (l.map s.ev) (l.map a.eval)
  | [] => by simp [RVl]
  | x :: l => by simp only [List.map_cons, RVl]; exact ⟨_, _, rfl, ev_sound hr x, evs_sound hr l⟩

theorem s_makeFunc (hr : Rel E s a w η) {fn : Fn} {f c : Array Operand} (ho : o.op = .makeFunc fn f c) : Done P E s a w o ⟨.func fn (f.toList.map s.ev) (c.toList.map s.ev), [], []⟩ := by
  refine Done.val hr (v := .func fn (f.map a.eval) (c.map a.eval)) ?_ (by unfold execOp; simp [ho, Instr.makeFunc])
  simp only [RV]
  exact ⟨_, _, rfl, by simpa using evs_sound hr f.toList, by simpa using evs_sound hr c.toList⟩

/-- What is laid under a number. -/
theorem laidC_row {c : Ctx} (hl : Laid c) (hd : c.data = false) {id : Nat} {ob : Obj} (hid : c.hp id = some ob) (hk : ob.k ≠ .map) :
    0 < ob.e ∧ c.kn id ∧ ob.xs.length ≤ 140737488355328 ∧ ∃ us, RVl c ob.xs us ∧ (∀ u ∈ us, u.cells.size = ob.e) ∧ (∀ x ∈ flat us, x.oneCell' = true) ∧ c.w.ownsRow 0 ob.T ob.e (c.η id) ob.xs.length (flat us) := by
  obtain ⟨p, l, n, ⟨us, r1, r2⟩, _, _, _⟩ := hl.obj id ob hid
  unfold RowAt at r2
  rw [if_neg hk] at r2
  refine ⟨p, l, n, us, ?_, r2.1, r2.2.1, r2.2.2⟩
  have hc : ({ c with data := false } : Ctx) = c := by cases c; simp_all
  cases hd : decide (ob.k = .ro) with
  | false => rw [hd, hc] at r1; exact r1
  | true => rw [hd] at r1; have := RVl_data _ _ r1; rwa [hc] at this

theorem laid_row (hr : Rel E s a w η) {id : Nat} {ob : Obj} (hid : s.hp id = some ob) (hk : ob.k ≠ .map) :
    0 < ob.e ∧ s.kn id ∧ ob.xs.length ≤ 140737488355328 ∧ ∃ us, RVl (s.ctx E w η) ob.xs us ∧ (∀ u ∈ us, u.cells.size = ob.e) ∧ (∀ x ∈ flat us, x.oneCell' = true) ∧ w.ownsRow 0 ob.T ob.e (η id) ob.xs.length (flat us) := by
  exact laidC_row hr.laid rfl hid hk

theorem row_range {w : World} {T : TypeId} {e n b : Nat} {v : Value} {xs : List Value} (h : w.ownsRow 0 T e v n xs) (hb : blk v = some b) : w.rangeAt b 0 xs :=
  fun j u hu => by
    rw [blk_row h] at hb
    have := h.cells hb j u hu
    rw [Addr.add_mid] at this
    exact this

theorem ptr_addr (hr : Rel E s a w η) {x : Operand} {id n i o' : Nat} {ob : Obj} (hx : s.ev x = .ptr id n i o') (hid : s.hp id = some ob) (hn : n = ob.xs.length) :
    ob.k ≠ .map ∧ ∃ b, blk (η id) = some b ∧ a.eval x = .pointer (some ⟨b, i * ob.e + o', none⟩) := by
  have h := ev_sound hr x
  rw [hx] at h
  simp only [RV] at h
  obtain ⟨_, _, _, h⟩ := h
  simp only [FSt.ctx, hid] at h
  exact ⟨h.1, h.2.2 hn⟩

theorem s_load_ptr (hr : Rel E s a w η) {T : TypeId} {x : Operand} (ho : o.op = .load T x) {id n i o' : Nat} {ob : Obj} {y : V} {rd : List Nat} (hx : s.ev x = .ptr id n i o') (hid : s.hp id = some ob)
    (hy : partV P T (ob.xs.getD i .bot) o' = some y) (hn : n = ob.xs.length) (hi : i < ob.xs.length) (hc : 0 < P.cellsOf T) : Done P E s a w o ⟨y, [], rd⟩ := by
  obtain ⟨hk, b, hb, hv⟩ := ptr_addr hr hx hid hn
  obtain ⟨hp, _, _, us, r1, r2, _, r4⟩ := laid_row hr hid hk
  have hxi : ob.xs[i]? = some (ob.xs.getD i .bot) := by simp [hi]
  obtain ⟨u, hu, hxu⟩ := RVl_get r1 i _ hxi
  obtain ⟨v, hrun, hyv⟩ := load_sound (c := s.ctx E w η) (off := 0) (b := b) r2 (row_range r4 hb) hu hxu hy hp hc
  refine Done.val hr hyv ?_
  unfold execOp
  simp only [Nat.zero_add] at hrun
  have hrun' : (loadVar T ⟨b, i * ob.e + o', none⟩).run P w = .ok v w := hrun
  simp [ho, hv, Instr.loadAt, Instr.sureAddr, hrun']

theorem s_load_tptr (hr : Rel E s a w η) {T : TypeId} {x : Operand} (ho : o.op = .load T x) {e i o' : Nat} {xs : List V} {y : V} {rd : List Nat} (hx : s.ev x = .tptr e xs i o')
    (hy : partV P T (xs.getD i .bot) o' = some y) (hi : i < xs.length) (he : 0 < e) (hc : 0 < P.cellsOf T) : Done P E s a w o ⟨y, [], rd⟩ := by
  have h := ev_sound hr x
  rw [hx] at h
  simp only [RV] at h
  obtain ⟨b, off, us, r1, r2, _, _, r5, hv⟩ := h
  have r1' := RVl_data (c := s.ctx E w η) _ _ r1
  have hxi : xs[i]? = some (xs.getD i .bot) := by simp [hi]
  obtain ⟨u, hu, hxu⟩ := RVl_get r1' i _ hxi
  obtain ⟨v, hrun, hyv⟩ := load_sound (c := s.ctx E w η) (off := off) (b := b) r2 r5 hu hxu hy he hc
  refine Done.val hr hyv ?_
  unfold execOp
  have hrun' : (loadVar T ⟨b, off + (i * e + o'), none⟩).run P w = .ok v w := hrun
  simp [ho, hv, Instr.loadAt, Instr.sureAddr, hrun']

theorem s_len (hr : Rel E s a w η) {T : TypeId} {x : Operand} (ho : ∃ t, o.op = .call { callee := .builtin .len, args := #[x], argTypes := #[T] } ∧ t = o.type) {q : Stp}
    (hp : lenV s.hp (s.ev x) = some q) (hs : q.side) (hst : ∀ b, s.ev x = .str b → P.underlying T = some .string) (hsl : (∀ b, s.ev x ≠ .str b) → (∀ i, s.ev x ≠ .mp i) → ∃ e, P.underlying T = some (.slice e)) (hmp : ∀ i, s.ev x = .mp i → ∃ K E, P.underlying T = some (.map K E)) : Done P E s a w o q.e := by
  obtain ⟨_, ho, _⟩ := ho
  have hx := ev_sound hr x
  have hw : ∀ n : Nat, n ≤ 140737488355328 → RV (s.ctx E w η) (.int .i64 (n : Int)) (.int .i64 (n : Int)) := fun n hn => by
    simp only [RV, true_and, IntKind.has, IntKind.min, IntKind.max, IntKind.signed, IntKind.bits]
    constructor <;> simp <;> omega
  have hslice : ∀ (b : Option Addr) n m, (∀ b, s.ev x ≠ .str b) → (∀ i, s.ev x ≠ .mp i) → a.eval x = .slice b n m → (execOp a.eval o).run P w = .ok (.value (.int .i64 (n : Int))) w := fun b n m hne hne2 hv => by
    obtain ⟨e, he⟩ := hsl hne hne2
    unfold execOp
    simp [ho, hv, resolve, invoke, builtin, Builtin.len_, run_underlying he, goInt]
  generalize s.ev x = X at *
  unfold lenV at hp
  split at hp
  · simp only [just, Option.some.injEq] at hp; subst hp
    simp only [RV] at hx
    exact Done.val hr (hw 0 (by omega)) (hslice none 0 0 (by simp) (by simp) hx)
  · simp only [just, Option.some.injEq] at hp; subst hp
    simp only [RV] at hx
    obtain ⟨b, cap, us, hv, _, hl, _⟩ := hx
    exact Done.val hr (hw _ hl) (hslice b _ cap (by simp) (by simp) hv)
  · rename_i st
    simp only [justIf, Option.some.injEq] at hp; subst hp
    simp only [RV] at hx
    simp only at hs
    refine Done.val hr (hw _ hs) ?_
    have he := hst st rfl
    unfold execOp
    simp [ho, hx, resolve, invoke, builtin, Builtin.len_, run_underlying he, goInt]
  · rename_i id n
    split at hp
    · rename_i ob hid
      simp only [Option.some.injEq] at hp; subst hp
      simp only at hs
      simp only [RV] at hx
      obtain ⟨⟨b, m, cap, hv⟩, _, _, hx⟩ := hx
      simp only [FSt.ctx, hid] at hx
      obtain ⟨_, _, hlen, us, r1, r2, _, r4⟩ := laid_row hr hid hx.1
      have hη := hx.2.2 hs
      have : m = n := by
        rcases r4.2 with ⟨h0, h1⟩ | ⟨g, cp, cur, h0, _⟩
        · rw [hη, h0] at hv; cases hv; omega
        · rw [hη, h0] at hv; cases hv; omega
      subst this
      exact Done.val hr (hw _ (by omega)) (hslice b m cap (by simp) (by simp) hv)
    · cases hp
  · rename_i id
    split at hp
    · rename_i ob hid
      simp only [Option.some.injEq] at hp; subst hp
      simp only [RV] at hx
      obtain ⟨⟨r, hv⟩, _, _, hx⟩ := hx
      simp only [FSt.ctx, hid] at hx
      obtain ⟨_, _, hlen, ⟨us, r1, r2⟩, _⟩ := hr.laid.obj id ob hid
      unfold RowAt at r2
      rw [if_pos hx.1] at r2
      obtain ⟨r', es, clk, h1, h2, h3⟩ := r2
      have hl := RVl_length r1
      rw [h3] at hl
      simp at hl
      have h4 : a.eval x = .map (some r') := hx.2.trans h1
      obtain ⟨K, E', he⟩ := hmp id rfl
      refine Done.val hr (hw _ hlen) ?_
      unfold execOp
      have h5 : (getObj r').run P w = .ok (.map es clk) w := by simp [getObj, Sem.run, show w.heap[r']? = _ from h2]
      simp [ho, h4, resolve, invoke, builtin, Builtin.len_, run_underlying he, goInt, h5, hl]
    · cases hp
  · cases hp

theorem FSt.app_one (s : FSt) (d : Option Tmp) (v : V) (id : Nat) (ob : Obj) (rd : List Nat) :
    s.app d ⟨v, [(id, ob)], rd⟩ = ({ s with hp := fun k => if k = id then some ob else s.hp k, kn := fun i => i = id ∨ s.kn i } : FSt).put d v := by
  unfold FSt.app FSt.put
  cases d with
  | none => simp [updHp, Eff.ids]
  | some d =>
    by_cases hd : d < s.N <;> simp [updHp, Eff.ids, hd]

/-- A new variable. -/
theorem lay_box (hr : Rel E s a w η) {fid : Nat} {T : TypeId} {x : V} {v : Value} (hf : ¬ s.kn fid) (hx : RV (s.ctx E w η) x v) (hs : x.sc = true ∨ x.cl.isSome = true) (hsz : sizeV x = P.cellsOf T) (hc : 0 < P.cellsOf T)
    (h : (execOp a.eval o).run P w = .ok (.value (.pointer (some ⟨w.heap.size, 0, none⟩))) (w.alloc (.cells v.cells T))) :
    Done P E s a w o ⟨.ptr fid 1 0 0, [(fid, ⟨.box, T, P.cellsOf T, [x]⟩)], []⟩ := by
  have hsize : v.cells.size = P.cellsOf T := by rw [RV_size hx hs]; exact hsz
  have hone : ∀ u ∈ v.cells.toList, u.oneCell' = true := by
    rcases hs with hs | hs
    · have := RV_sc hx hs
      rw [cells_one this]; simpa using this
    · obtain ⟨cs, hcs⟩ := Option.isSome_iff_exists.1 hs
      obtain ⟨cv, rfl, _, h2⟩ := RV_cl hcs hx
      exact h2
  have hrow := World.ownsRow_lit (base := 0) (e := T) (size := P.cellsOf T) w v.cells 1 (Nat.zero_le _) (by decide) (by rw [hsize]; omega)
  have L := hr.lay (w' := w.alloc (.cells v.cells T)) fid ⟨.box, T, P.cellsOf T, [x]⟩ (.slice (some ⟨w.heap.size, 0, none⟩) 1 1) none (World.grownBy_alloc w _ none) (.inl ⟨hf, rfl⟩)
    (by simp) hc (by simp) (fun b hb => by simp [blk] at hb; exact .inl (by omega)) (fun _ => ⟨_, rfl⟩) [v] (by simp only [RVl]; exact ⟨v, [], rfl, hx, rfl⟩) (by simpa using hsize) (by simpa [flat] using hone)
    (by simpa [flat] using hrow) (by simp) (fun o2 h2 _ hkn => absurd hkn hf)
  have := L.put o.dst (x := .ptr fid 1 0 0) (v := .pointer (some ⟨w.heap.size, 0, none⟩)) (by
    simp only [RV, FSt.ctx]
    refine ⟨⟨_, _, rfl⟩, trivial, .inl trivial, ?_⟩
    simp [blk])
  rw [← FSt.app_one s o.dst (.ptr fid 1 0 0) fid _ []] at this
  exact ⟨_, _, _, h, .inl ⟨_, rfl, this⟩⟩

theorem s_alloc (hr : Rel E s a w η) {fid : Nat} {T : TypeId} {z : V} (ho : o.op = .alloc T) (hz : zeroV P T = some z) (hf : ¬ s.kn fid) (hs : z.sc = true ∨ z.cl.isSome = true) (hsz : sizeV z = P.cellsOf T) (hc : 0 < P.cellsOf T) :
    Done P E s a w o ⟨.ptr fid 1 0 0, [(fid, ⟨.box, T, P.cellsOf T, [z]⟩)], []⟩ := by
  unfold zeroV at hz
  cases hi : P.info? T with
  | none => simp [hi] at hz
  | some i =>
    cases hzz : i.zero with
    | none => simp [hi, hzz] at hz
    | some zv =>
      simp only [hi, Option.bind_some, hzz, Option.some.injEq] at hz
      subst hz
      refine lay_box hr hf (cst_RV rfl zv) hs hsz hc ?_
      unfold execOp
      simp [ho, Instr.alloc, zeroValue, typeInfo, hi, hzz, newVar, newRow]

theorem s_box (hr : Rel E s a w η) {fid : Nat} {T : TypeId} {x : Operand} (ho : o.op = .box T x) (hf : ¬ s.kn fid) (hs : (s.ev x).sc = true ∨ (s.ev x).cl.isSome = true) (hsz : sizeV (s.ev x) = P.cellsOf T) (hc : 0 < P.cellsOf T) :
    Done P E s a w o ⟨.ptr fid 1 0 0, [(fid, ⟨.box, T, P.cellsOf T, [s.ev x]⟩)], []⟩ := by
  refine lay_box hr hf (ev_sound hr x) hs hsz hc ?_
  unfold execOp
  simp [ho, Instr.box, newVar, newRow]

/-- What is stored in a part of an element. -/
theorem setPart_sound {c : Ctx} {x v x' : V} {u uv : Value} {o e : Nat} (hx : RV c x u) (hv : RV c v uv) (hp : setPart x o v = some x') (hu : u.cells.size = e) (hone : ∀ y ∈ u.cells.toList, y.oneCell' = true) :
    (v.sc = true ∨ v.cl.isSome = true) ∧ o + uv.cells.size ≤ e ∧ ∃ u', RV c x' u' ∧ u'.cells.toList = u.cells.toList.take o ++ uv.cells.toList ++ u.cells.toList.drop (o + uv.cells.size) ∧ (∀ y ∈ uv.cells.toList, y.oneCell' = true) := by
  unfold setPart at hp
  cases hxc : x.cl with
  | some cs =>
    obtain ⟨cv, rfl, h1, h2⟩ := RV_cl hxc hx
    have hl := RVl_length h1
    have hcv : (Value.agg cv).cells = cv := rfl
    rw [hcv] at hu hone ⊢
    have hcs : cs.length = e := by simp at hl; omega
    cases hvc : v.cl with
    | some vs =>
      obtain ⟨vv, rfl, g1, g2⟩ := RV_cl hvc hv
      have gl := RVl_length g1
      have hvvc : (Value.agg vv).cells = vv := rfl
      rw [hvvc]
      simp only [hxc, hvc] at hp
      have hvv : vv.size = vs.length := by simpa using gl
      split at hp
      · rename_i h
        obtain ⟨rfl, h⟩ := h
        cases hp
        refine ⟨.inr (by simp), by omega, _, hv, ?_, g2⟩
        rw [hvvc, List.take_zero, List.nil_append, Nat.zero_add]
        rw [List.drop_of_length_le (by simp at hl ⊢; omega), List.append_nil]
      · split at hp
        · rename_i h
          cases hp
          refine ⟨.inr (by simp), by omega, .agg (cv.toList.take o ++ vv.toList ++ cv.toList.drop (o + vv.size)).toArray, ?_, by simp [Value.cells], g2⟩
          simp only [RV]
          refine ⟨_, rfl, ?_, ?_⟩
          · simp only
            rw [hvv]
            exact RVl_append (RVl_append (RVl_take _ h1) g1) (RVl_drop _ h1)
          · intro y hy
            simp only [List.mem_append] at hy
            rcases hy with (hy | hy) | hy
            · exact h2 y (List.mem_of_mem_take hy)
            · exact g2 y hy
            · exact h2 y (List.mem_of_mem_drop hy)
        · cases hp
    | none =>
      simp only [hxc, hvc] at hp
      split at hp
      · rename_i h
        cases hp
        have ho := RV_sc hv h.1
        rw [cells_one ho]
        refine ⟨.inl h.1, by simp; omega, .agg (cv.setIfInBounds o uv), ?_, ?_, by simpa using ho⟩
        · simp only [RV]
          refine ⟨_, rfl, by rw [Array.toList_setIfInBounds]; exact RVl_set h1 hv, fun y hy => ?_⟩
          rw [Array.toList_setIfInBounds] at hy
          rcases List.mem_or_eq_of_mem_set hy with hy | hy
          · exact h2 y hy
          · rw [hy]; exact ho
        · simp only [Value.cells, Array.toList_setIfInBounds, List.size_toArray, List.length_cons, List.length_nil]
          rw [List.set_eq_take_append_cons_drop]
          rw [if_pos (by simp at hl ⊢; omega)]
          simp
      · cases hp
  | none =>
    cases hvc : v.cl with
    | some vs => simp [hxc, hvc] at hp
    | none =>
      simp only [hxc, hvc] at hp
      split at hp
      · rename_i h
        obtain ⟨h1, h2, rfl⟩ := h
        cases hp
        have ho := RV_sc hv h1
        have hox := RV_sc hx h2
        rw [cells_one hox] at hu ⊢
        rw [cells_one ho]
        simp at hu
        refine ⟨.inl h1, by simp; omega, uv, hv, by simp [cells_one ho], by simpa using ho⟩
      · cases hp

end
end Go.AM
