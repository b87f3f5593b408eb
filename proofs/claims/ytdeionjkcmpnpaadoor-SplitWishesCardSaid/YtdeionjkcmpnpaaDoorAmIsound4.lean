/- Each operation's step against the model: more slices, append, the least and the greatest. -/
import Derived.Test.YtdeionjkcmpnpaaDoorAmIsoundM
import Derived.Laws.BytesArg
set_option linter.unusedSimpArgs false
set_option linter.unusedVariables false
namespace Go.AM
open Go.RowKit

section
variable {P : Program} {E : Entry} {s : FSt} {a : Act} {w : World} {η : Nat → Value} {o : Oper}

theorem s_slice_str (hr : Rel E s a w η) {T : TypeId} {x : Operand} {lo hi : Option Operand} (ho : o.op = .slice T x lo hi none) {l h : Int} {st : ByteArray} (hT : P.underlying T = some .string) (hx : s.ev x = .str st)
    (hl : bnd 0 (lo.map s.ev) = some l) (hh : bnd st.size (hi.map s.ev) = some h) (h0 : 0 ≤ l) (h1 : l ≤ h) (h2 : h ≤ st.size) : Done P E s a w o ⟨.str (st.extract l.toNat h.toNat), [], []⟩ := by
  have hxx := ev_sound hr x
  rw [hx] at hxx
  simp only [RV] at hxx
  have hb := bounds_run (P := P) (b := false) (cap := st.size) hr hl hh h0 h1 h2 (Nat.le_refl _)
  refine Done.val hr (v := .string (st.extract l.toNat h.toNat)) (by simp only [RV]) ?_
  unfold execOp
  simp [ho, hxx, Instr.sliceAt, Instr.slice, run_underlying hT, hb]

theorem s_slice_nil (hr : Rel E s a w η) {T T' : TypeId} {x : Operand} {lo hi : Option Operand} (ho : o.op = .slice T x lo hi none) {l h : Int} (hT : elemOfT P T = some T') (hx : s.ev x = .nilS)
    (hl : bnd 0 (lo.map s.ev) = some l) (hh : bnd ((0 : Nat) : Int) (hi.map s.ev) = some h) (h0 : l = 0) (h1 : h = 0) (hc : 0 < P.cellsOf T') : Done P E s a w o ⟨.nilS, [], []⟩ := by
  have hxx := ev_sound hr x
  rw [hx] at hxx
  simp only [RV] at hxx
  subst h0; subst h1
  have hb := bounds_run (P := P) (b := true) (cap := 0) hr hl hh (by omega) (by omega) (by omega) (Nat.le_refl _)
  refine Done.val hr (v := .slice none 0 0) (by simp only [RV]) ?_
  unfold execOp
  simp only [ho, hxx, Option.map_none, Sem.run_bind, sliceAt_slice (elemOf_und hT)]
  simp at hb
  simp [Instr.slice, run_underlying (elemOf_und hT), hb, cellsOf_run hc]

/-- A row that nobody writes any more, as data. -/
theorem RV_ro (hr : Rel E s a w η) {id n : Nat} {ob : Obj} {v : Value} (hv : RV (s.ctx E w η) (.obj id n) v) (hid : s.hp id = some ob) (hn : n = ob.xs.length) (hk : ob.k = .ro) : RV (s.ctx E w η) (.sl ob.e ob.xs) v := by
  obtain ⟨hpos, hkn, hlen, ⟨us, r1, rr⟩, hro, _, _⟩ := hr.laid.obj id ob hid
  unfold RowAt at rr
  rw [if_neg (by rw [hk]; simp)] at rr
  obtain ⟨r2, r3, r4⟩ := rr
  rw [show decide (ob.k = Kind.ro) = true by simpa using hk] at r1
  simp only [RV] at hv ⊢
  obtain ⟨_, _, _, hv⟩ := hv
  simp only [FSt.ctx, hid] at hv
  have hη := hv.2.2 hn
  subst hη
  rcases r4.2 with ⟨h3, h4⟩ | ⟨g, cp, cur, h3, _, hg, hnc, _⟩
  · have hxs : ob.xs = [] := List.eq_nil_of_length_eq_zero h4
    refine ⟨none, 0, us, ?_, by simp [hxs], by simp [hxs], r1, r2, r3, .inl hxs⟩
    rw [hxs]; exact h3
  · refine ⟨_, _, us, h3, hnc, hlen, r1, r2, r3, .inr ⟨g, 0, rfl, hro hk g (by
      show blk (η id) = some g
      have : η id = _ := h3
      rw [this]; rfl), (Array.getElem?_eq_some_iff.1 hg).1, row_range r4 (by
      have : η id = _ := h3
      show blk (η id) = some g
      rw [this]; rfl)⟩⟩

theorem minV_sound {c : Ctx} (big : Bool) (w : World) : ∀ (n : Nat) (xs : List V) (us : List Value) (y : V), xs.length = n → minV big xs = some y → RVl c xs us → ∃ v, ((if big then Builtin.max_ else Builtin.min_) #[] 0 us.toArray).run P w = .ok v w ∧ RV c y v := by
  have step : ∀ (k k' : IntKind) (p q : Int), ((if big then Builtin.max2 else Builtin.min2) (.int k p) (.int k' q)).run P w = .ok (.int k (if big then (if q > p then q else p) else (if q < p then q else p))) w := by
    intro k k' p q
    cases big <;> simp [Builtin.max2, Builtin.min2]
  have uni : ∀ us : List Value, (if big then Builtin.max_ else Builtin.min_) #[] 0 us.toArray = match us with | [] => (if big then Builtin.max_ #[] 0 #[] else Builtin.min_ #[] 0 #[]) | x :: rest => rest.foldlM (if big then Builtin.max2 else Builtin.min2) x := by
    intro us
    cases us <;> cases big <;> simp [Builtin.max_, Builtin.min_]
  intro n
  induction n with
  | zero => intro xs us y hn hm; cases xs <;> simp [minV] at hm hn
  | succ n ih =>
    intro xs us y hn hm hr
    match xs, hn, hm, hr with
    | [x], hn, hm, hr =>
      simp only [RVl] at hr
      obtain ⟨u, r, rfl, hxu, rfl⟩ := hr
      cases x <;> simp only [minV, Option.some.injEq, reduceCtorEq] at hm
      subst hm
      exact ⟨u, by rw [uni]; simp, hxu⟩
    | x :: z :: r, hn, hm, hr =>
      simp only [RVl] at hr
      obtain ⟨u, _, rfl, hxu, u2, us2, rfl, hzu, hr2⟩ := hr
      cases x <;> cases z <;> simp only [minV, reduceCtorEq] at hm
      rename_i k p k' q
      split at hm
      rotate_left
      · cases hm
      rename_i hkk
      subst hkk
      simp only [RV] at hxu hzu
      obtain ⟨rfl, hp⟩ := hxu
      obtain ⟨rfl, hq⟩ := hzu
      have hq' : k.has (if big then (if q > p then q else p) else (if q < p then q else p)) := by cases big <;> simp <;> split <;> assumption
      obtain ⟨v, hv, hy⟩ := ih _ (.int k (if big then (if q > p then q else p) else (if q < p then q else p)) :: us2) y (by simpa using hn) hm (by
        simp only [RVl]
        exact ⟨_, _, rfl, by simp only [RV]; exact ⟨trivial, hq'⟩, hr2⟩)
      refine ⟨v, ?_, hy⟩
      rw [uni] at hv ⊢
      simp only [List.foldlM_cons, Sem.run_bind, step, Result.andThen_ok] at hv ⊢
      exact hv

theorem run_append_none (P : Program) (w : World) (t ty e : TypeId) (i : TypeInfo) (size : Nat) (ht : P.underlying t = some (.slice e)) (hi : P.info? e = some i)
    (v : Value) (n c : Nat) (xs : List Value) (hown : w.ownsRow 0 e size v n xs) : (Builtin.append_ #[t, t] ty #[v, .slice none 0 c]).run P w = .ok v w := by
  rcases hown.2 with ⟨rfl, rfl⟩ | ⟨g, cap, cur, rfl, _, _, hnc, _⟩
  · simp [Builtin.append_, run_underlying ht, sizeOf, typeInfo, hi, Builtin.lenOf, Builtin.firstCells]
  · simp [Builtin.append_, run_underlying ht, sizeOf, typeInfo, hi, Builtin.lenOf, Builtin.firstCells, hnc, storeCells]

theorem append_run {P : Program} (w : World) (t ty e : TypeId) (i : TypeInfo) (z : Value) (size bytes : Nat) (ht : P.underlying t = some (.slice e)) (hi : P.info? e = some i) (hz : i.zero = some z)
    (hsize : i.size = size) (hby : i.bytes = bytes) (hzs : z.cells.size = size) (hsz : 0 < size) (v : Value) (n : Nat) (xs : List Value) (hown : w.ownsRow 0 e size v n xs)
    (ao : Option Addr) (m c : Nat) (news : List Value) (hl : news.length = m * size) (hnone : ao = none → m = 0) (hnews : ∀ a, ao = some a → ∀ j u, news[j]? = some u → w.cell? (a.add j) = some u) (h1 : ∀ u ∈ news, u.oneCell' = true)
    (h63 : n + m ≤ 140737488355328) (hbytes : (n + m) * bytes ≤ 140737488355328) :
    ∃ v' w', (Builtin.append_ #[t, t] ty #[v, .slice ao m c]).run P w = .ok v' w' ∧ w'.ownsRow 0 e size v' (n + m) (xs ++ news) ∧ w.grownBy w' v.ownBlock ∧ (∀ b, v'.ownBlock = some b → w.heap.size ≤ b ∨ v.ownBlock = some b) := by
  have hml : n + m ≤ maxLen := by unfold maxLen; omega
  cases ao with
  | none =>
    have hm := hnone rfl
    subst hm
    have hn : news = [] := List.eq_nil_of_length_eq_zero (by simpa using hl)
    subst hn
    exact ⟨v, w, run_append_none P w t ty e i size ht hi v n c xs hown, by simpa using hown, ⟨rfl, rfl, rfl, Nat.le_refl _, fun _ _ _ => rfl⟩, fun b hb => .inr hb⟩
  | some a =>
    have hnews := hnews a rfl
    obtain ⟨v', w', hrun, ho, hg, hnil⟩ := run_append_own (P := P) w 0 t ty e i z size bytes ht hi hz hsize hby hzs hsz v n xs hown a m c news hl hnews h1 hml hbytes (Nat.zero_le _)
    refine ⟨v', w', hrun, ho, hg, ?_⟩
    rcases hown.2 with ⟨rfl, rfl⟩ | ⟨g, cap, cur, rfl, _, hgg, hnc, hcm, hcs, htake⟩
    · by_cases hm : m = 0
      · have := hnil.2 ⟨rfl, hm⟩
        subst this
        intro b hb; simp [Value.ownBlock] at hb
      · have hr := run_append_nil (P := P) w t ty e i z ht hi hz a m c news (by rw [hsize]; exact hl) hnews (by omega) (by omega) (by rw [hby]; simp at hbytes; omega)
        rw [hr] at hrun
        cases hrun
        intro b hb
        simp [Value.ownBlock] at hb
        exact .inl (by omega)
    · by_cases hroom : n + m ≤ cap
      · obtain ⟨w2, hr, _, _⟩ := run_append_fits (P := P) w 0 t ty e i size ht hi hsize g n cap xs hown a m c news hl hnews h1 hroom
        rw [hr] at hrun
        cases hrun
        intro b hb
        exact .inr hb
      · have hr := run_append_grow (P := P) w t ty e i z ht hi hz ⟨g, 0, none⟩ n cap xs (by rw [hsize]; exact hown.1) (hown.cells rfl) a m c news (by rw [hsize]; exact hl) hnews (by omega) (by omega)
          (by rw [hby]; exact growslice_fits (by omega) hbytes)
        rw [hr] at hrun
        cases hrun
        intro b hb
        simp [Value.ownBlock] at hb
        exact .inl (by omega)

/-- What an appended slice shows. -/
theorem src_rows (hr : Rel E s a w η) {x : V} {v : Value} (hv : RV (s.ctx E w η) x v) {e : Nat} {ys : List V} (h : (x = .nilS ∧ ys = []) ∨ (x = .nl ∧ ys = []) ∨ x = .sl e ys ∨ x = .sn e ys ∨ ∃ id n ob, x = .obj id n ∧ s.hp id = some ob ∧ n = ob.xs.length ∧ e = ob.e ∧ ys = ob.xs) :
    ∃ ao c us, v = .slice ao ys.length c ∧ RVl (s.ctx E w η) ys us ∧ (∀ u ∈ us, u.cells.size = e) ∧ (∀ x ∈ flat us, x.oneCell' = true) ∧ (ao = none → ys.length = 0) ∧ (∀ a, ao = some a → ∀ j u, (flat us)[j]? = some u → w.cell? (a.add j) = some u) := by
  rcases h with ⟨rfl, rfl⟩ | ⟨rfl, rfl⟩ | rfl | rfl | ⟨id, n, ob, rfl, hid, hn, rfl, rfl⟩
  · simp only [RV] at hv
    exact ⟨none, 0, [], hv, by simp [RVl], by simp, by simp [flat], by simp, by simp⟩
  · simp only [RV] at hv
    obtain ⟨cap, hv⟩ := hv
    exact ⟨none, cap, [], hv, by simp [RVl], by simp, by simp [flat], by simp, by simp⟩
  · simp only [RV] at hv
    obtain ⟨ao, cap, us, hv, hc, hl, r1, r2, hone, r3⟩ := hv
    refine ⟨ao, cap, us, hv, RVl_data (c := s.ctx E w η) _ _ r1, r2, hone, fun h => ?_, fun a ha j u hu => ?_⟩
    · rcases r3 with r3 | ⟨b, off, h', _⟩
      · simp [r3]
      · rw [h] at h'; cases h'
    · rcases r3 with r3 | ⟨b, off, h', _, _, hra⟩
      · subst r3
        have := RVl_length r1
        have : us = [] := List.eq_nil_of_length_eq_zero (by simpa using this)
        subst this
        simp [flat] at hu
      · rw [ha] at h'; cases h'
        rw [Addr.add_mid]; exact hra j u hu
  · simp only [RV] at hv
    obtain ⟨_, ao, cap, us, hv, hc, hl, r1, r2, hone, r3⟩ := hv
    refine ⟨ao, cap, us, hv, RVl_data (c := s.ctx E w η) _ _ r1, r2, hone, fun h => ?_, fun a ha j u hu => ?_⟩
    · rcases r3 with r3 | ⟨b, off, h', _⟩
      · simp [r3]
      · rw [h] at h'; cases h'
    · rcases r3 with r3 | ⟨b, off, h', _, _, hra⟩
      · subst r3
        have := RVl_length r1
        have : us = [] := List.eq_nil_of_length_eq_zero (by simpa using this)
        subst this
        simp [flat] at hu
      · rw [ha] at h'; cases h'
        rw [Addr.add_mid]; exact hra j u hu
  · simp only [RV] at hv
    obtain ⟨_, _, _, hv⟩ := hv
    simp only [FSt.ctx, hid] at hv
    have hη := hv.2.2 hn
    obtain ⟨_, _, _, us, r1, r2, r3, r4⟩ := laid_row hr hid hv.1
    rcases r4.2 with ⟨h3, h4⟩ | ⟨g, cp, cur, h3, h5⟩
    · refine ⟨none, 0, us, by rw [hη, h3, h4], r1, r2, r3, fun _ => h4, by simp⟩
    · refine ⟨some ⟨g, 0, none⟩, cp, us, by rw [hη, h3], r1, r2, r3, by simp, fun a ha j u hu => ?_⟩
      cases ha
      exact r4.cells (by rw [h3]; rfl) j u hu

theorem s_append (hr : Rel E s a w η) {fid : Nat} {T T' : TypeId} {xs xx : Operand} (ho : o.op = .call { callee := .builtin .append, args := #[xs, xx], argTypes := #[T, T] }) (hT : elemOfT P T = some T') (hz : ∃ z, zeroV P T' = some z ∧ sizeV z = P.cellsOf T' ∧ (z.sc = true ∨ z.cl.isSome = true))
    (hc : 0 < P.cellsOf T') {ys : List V} (hx : (s.ev xx = .nilS ∧ ys = []) ∨ (s.ev xx = .nl ∧ ys = []) ∨ s.ev xx = .sl (P.cellsOf T') ys ∨ s.ev xx = .sn (P.cellsOf T') ys ∨ ∃ id n ob, s.ev xx = .obj id n ∧ s.hp id = some ob ∧ n = ob.xs.length ∧ P.cellsOf T' = ob.e ∧ ys = ob.xs) {rd : List Nat} :
    (s.ev xs = .nilS → ¬ s.kn fid → ys.length * P.bytesOf T' ≤ 140737488355328 → ys.length ≤ 140737488355328 → Done P E s a w o ⟨.obj fid ys.length, [(fid, ⟨.arr, T', P.cellsOf T', ys⟩)], rd⟩) ∧
    (∀ id n ob, s.ev xs = .obj id n → s.hp id = some ob → n = ob.xs.length → ob.k = .arr → ob.T = T' → ob.e = P.cellsOf T' → (n + ys.length) * P.bytesOf T' ≤ 140737488355328 → n + ys.length ≤ 140737488355328 →
      Done P E s a w o ⟨.obj id (n + ys.length), [(id, { ob with xs := ob.xs ++ ys })], rd⟩) := by
  obtain ⟨ao, c, us, hxv, hus, hsz, hone, hnone, hcell⟩ := src_rows hr (ev_sound hr xx) hx
  obtain ⟨z, hz, hzs, hzsc⟩ := hz
  unfold zeroV at hz
  cases hi : P.info? T' with
  | none => simp [hi] at hz
  | some i =>
    cases hzz : i.zero with
    | none => simp [hi, hzz] at hz
    | some zv =>
      simp only [hi, Option.bind_some, hzz, Option.some.injEq] at hz
      subst hz
      have hzsize : zv.cells.size = P.cellsOf T' := by rw [RV_size (cst_RV (c := s.ctx E w η) rfl zv) hzsc]; exact hzs
      have hisz : i.size = P.cellsOf T' := by simp [Program.cellsOf, hi]
      have hib : i.bytes = P.bytesOf T' := by simp [Program.bytesOf, hi]
      have hlen := RVl_length hus
      have hrunE : ∀ v v' w', a.eval xs = v → (Builtin.append_ #[T, T] o.type #[v, .slice ao ys.length c]).run P w = .ok v' w' → (execOp a.eval o).run P w = .ok (.value v') w' := fun v v' w' hv h => by
        unfold execOp
        simp [ho, hv, hxv, resolve, invoke, builtin, h]
      constructor
      · intro hs hf hb hl
        have hsv := ev_sound hr xs
        rw [hs] at hsv
        simp only [RV] at hsv
        obtain ⟨v', w', hrun, how, hg, hblk⟩ := append_run (P := P) w T o.type T' i zv (P.cellsOf T') (P.bytesOf T') (elemOf_und hT) hi hzz hisz hib hzsize hc (.slice none 0 0) 0 [] (World.ownsRow_nil _ _ _ _) ao ys.length c (flat us) (by rw [flat_length hsz, hlen]) hnone hcell hone (by omega) (by simpa using hb)
        have L := hr.lay (w' := w') fid ⟨.arr, T', P.cellsOf T', ys⟩ v' none (by simpa [Value.ownBlock] using hg) (.inl ⟨hf, rfl⟩) (by simp) hc hl (fun b hb' => by
          rw [blk_row how] at hb'
          rcases hblk b hb' with h | h
          · exact .inl h
          · simp [Value.ownBlock] at h) (by simp) us hus hsz hone (by simpa using how) (by simp) (fun o2 h2 _ hkn => absurd hkn hf)
        have := L.put o.dst (x := .obj fid ys.length) (v := v') (by
          have hsl : ∃ a m cap, v' = .slice a m cap := by rcases how.2 with ⟨h, _⟩ | ⟨g, cap, cur, h, _⟩ <;> exact ⟨_, _, _, h⟩
          simp only [RV, FSt.ctx]
          exact ⟨hsl, trivial, .inl trivial, by simp⟩)
        rw [← FSt.app_one s o.dst (.obj fid ys.length) fid _ rd] at this
        exact ⟨_, _, _, hrunE _ _ _ hsv hrun, .inl ⟨_, rfl, this⟩⟩
      · intro id n ob hs hid hn hk hT' he hb hl
        have hsv := ev_sound hr xs
        rw [hs] at hsv
        simp only [RV] at hsv
        obtain ⟨_, _, _, hsv⟩ := hsv
        simp only [FSt.ctx, hid] at hsv
        have hη := hsv.2.2 hn
        obtain ⟨hpos, hkn, hobl, vs, r1, r2, r3, r4⟩ := laid_row hr hid (by rw [hk]; simp)
        have hbk := blk_row r4
        rw [hT', he] at r4
        obtain ⟨v', w', hrun, how, hg, hblk⟩ := append_run (P := P) w T o.type T' i zv (P.cellsOf T') (P.bytesOf T') (elemOf_und hT) hi hzz hisz hib hzsize hc (η id) ob.xs.length (flat vs) r4 ao ys.length c (flat us) (by rw [flat_length hsz, hlen]) hnone hcell hone (by omega) (by rw [← hn]; exact hb)
        have hgrow : (flat vs) ++ (flat us) = flat (vs ++ us) := (flat_append _ _).symm
        rw [hgrow] at how
        have hself : ys.length = 0 → v' = η id := fun h0 => by
          have hy0 : ys = [] := List.eq_nil_of_length_eq_zero h0
          have hu0 : us = [] := List.eq_nil_of_length_eq_zero (by rw [hlen, h0])
          cases ao with
          | none =>
            have := run_append_none P w T o.type T' i (P.cellsOf T') (elemOf_und hT) hi (η id) ob.xs.length c (flat vs) r4
            rw [h0] at hrun
            rw [this] at hrun
            cases hrun; rfl
          | some ad =>
            rcases r4.2 with ⟨h3, h4⟩ | ⟨g, cap, cur, h3, h5⟩
            · have h6 := run_append_own (P := P) w 0 T o.type T' i zv (P.cellsOf T') (P.bytesOf T') (elemOf_und hT) hi hzz hisz hib hzsize hc (η id) ob.xs.length (flat vs) r4 ad ys.length c (flat us) (by rw [flat_length hsz, hlen]) (hcell ad rfl) hone (by unfold maxLen; omega) (by rw [← hn]; exact hb) (Nat.zero_le _)
              obtain ⟨v2, w2, q1, _, _, q4⟩ := h6
              rw [q1] at hrun
              cases hrun
              rw [h3] at q4 ⊢
              exact q4.2 ⟨rfl, h0⟩
            · have r4' := r4
              rw [h3] at r4'
              obtain ⟨w2, q1, _, _⟩ := run_append_fits (P := P) w 0 T o.type T' i (P.cellsOf T') (elemOf_und hT) hi hisz g ob.xs.length cap (flat vs) r4' ad ys.length c (flat us) (by rw [flat_length hsz, hlen]) (hcell ad rfl) hone (by have := h5.2.2.1; omega)
              rw [h3] at hrun ⊢
              rw [q1] at hrun
              cases hrun
              rw [h0]; rfl
        have L := hr.lay (w' := w') id { ob with xs := ob.xs ++ ys } v' (blk (η id)) (by rw [hbk]; exact hg) (.inr ⟨ob, hid, by rw [hk]; simp, rfl, rfl, by simp, fun h => hself (by simp at h; simp [h])⟩) (by rw [hk]; simp) hpos (by simp; omega) (fun b hb' => by rw [hbk]; rw [blk_row how] at hb'; exact hblk b hb') (fun hbx => by rw [hk] at hbx; cases hbx)
          (vs ++ us) (RVl_append r1 hus) (fun u hu => by
            rcases List.mem_append.1 hu with hu | hu
            · exact r2 u hu
            · show u.cells.size = ob.e; rw [he]; exact hsz u hu) (fun x hx => by
            rw [flat_append] at hx
            rcases List.mem_append.1 hx with hx | hx
            · exact r3 x hx
            · exact hone x hx) (by simpa [hT', he] using how) (by simp [hk]) (fun o2 h2 _ _ => by rw [hid] at h2; cases h2; simp [hk])
        have := L.put o.dst (x := .obj id (n + ys.length)) (v := v') (by
          have hsl : ∃ a m cap, v' = .slice a m cap := by rcases how.2 with ⟨h, _⟩ | ⟨g, cap, cur, h, _⟩ <;> exact ⟨_, _, _, h⟩
          simp only [RV, FSt.ctx]
          refine ⟨hsl, trivial, .inl trivial, ?_⟩
          simp [hn, hk])
        rw [← FSt.app_one s o.dst (.obj id (n + ys.length)) id _ rd] at this
        exact ⟨_, _, _, hrunE _ _ _ hη hrun, .inl ⟨_, rfl, this⟩⟩

theorem foldl_fill : ∀ (l : List Value) (k off : Nat) (cs : Array Value), off + k + l.length ≤ cs.size →
    ((l.zipIdx k).foldl (fun (cs : Array Value) (p : Value × Nat) => cs.setIfInBounds (off + p.2) p.1) cs).toList = cs.toList.take (off + k) ++ l ++ cs.toList.drop (off + k + l.length)
  | [], k, off, cs, h => by simp
  | x :: l, k, off, cs, h => by
    simp only [List.length_cons] at h
    simp only [List.zipIdx_cons, List.foldl_cons]
    rw [foldl_fill l (k + 1) off _ (by simp; omega)]
    have hk : off + k < cs.toList.length := by simp; omega
    simp only [Array.toList_setIfInBounds, List.length_cons]
    have t : (cs.toList.set (off + k) x).take (off + (k + 1)) = cs.toList.take (off + k) ++ [x] := by
      rw [List.take_set, show off + (k + 1) = off + k + 1 by omega, List.take_succ_eq_append_getElem hk, List.set_append_right _ _ (by simp; omega)]
      simp only [List.length_take]
      rw [show off + k - min (off + k) cs.toList.length = 0 by omega]; rfl
    have d : (cs.toList.set (off + k) x).drop (off + (k + 1) + l.length) = cs.toList.drop (off + k + (l.length + 1)) := by
      rw [List.drop_set_of_lt (by omega), show off + (k + 1) + l.length = off + k + (l.length + 1) by omega]
    rw [t, d]; simp

theorem fill_step (v : Value) (off : Nat) (cs : Array Value) (h : off + v.cells.size ≤ cs.size) :
    (v.cells.zipIdx.foldl (fun cs (c, j) => cs.setIfInBounds (off + j) c) cs).toList = cs.toList.take off ++ v.cells.toList ++ cs.toList.drop (off + v.cells.size) := by
  have := foldl_fill v.cells.toList 0 off cs (by simpa using h)
  simp only [Nat.add_zero, Array.length_toList] at this
  rw [← this, ← Array.foldl_toList]
  congr 2
  simp

theorem cellsV_RV {c : Ctx} {x : V} {v : Value} (h : RV c x v) (hx : x.cl.isSome = true ∨ x.sc = true) : RVl c (cellsV x) v.cells.toList ∧ (∀ u ∈ v.cells.toList, u.oneCell' = true) := by
  unfold cellsV
  cases hc : x.cl with
  | some cs =>
    obtain ⟨cv, rfl, h1, h2⟩ := RV_cl hc h
    exact ⟨h1, h2⟩
  | none =>
    rcases hx with hx | hx
    · simp [hc] at hx
    · have ho := RV_sc h hx
      rw [cells_one ho]
      exact ⟨by simp only [RVl]; exact ⟨v, [], rfl, h, rfl⟩, by simpa using ho⟩

theorem fill_sound {c : Ctx} {pl : Nat → Option (Nat × Nat)} : ∀ (parts : List (Nat × V)) (vs : List (Nat × Value)) (cells cells' : List V) (cv : Array Value), fillV pl cells parts = some cells' → RVl c cells cv.toList → (∀ u ∈ cv.toList, u.oneCell' = true) →
    vs.length = parts.length → (∀ (j : Nat) p q, parts[j]? = some p → vs[j]? = some q → q.1 = p.1 ∧ RV c p.2 q.2) → ∃ cv', Instr.fill pl cv vs = some cv' ∧ RVl c cells' cv'.toList ∧ (∀ u ∈ cv'.toList, u.oneCell' = true)
  | [], vs, cells, cells', cv, h, hr, ho, hl, _ => by
    cases vs with
    | cons _ _ => simp at hl
    | nil =>
      simp only [fillV, Option.some.injEq] at h
      subst h
      exact ⟨cv, rfl, hr, ho⟩
  | (i, x) :: rest, vs, cells, cells', cv, h, hr, ho, hl, hp => by
    cases vs with
    | nil => simp at hl
    | cons q vs =>
      obtain ⟨i', v⟩ := q
      obtain ⟨e1, e2⟩ := hp 0 (i, x) (i', v) (by simp) (by simp)
      simp only at e1 e2
      subst e1
      simp only [fillV] at h
      simp only [Instr.fill]
      cases hpl : pl i' with
      | none => rw [hpl] at h; cases h
      | some os =>
        obtain ⟨off, size⟩ := os
        rw [hpl] at h
        simp only at h ⊢
        split at h
        · rename_i hc
          obtain ⟨h1, h2, h3⟩ := hc
          have hsz : v.cells.size = size := by rw [RV_size e2 (h1.symm), h2]
          have hlen : cv.size = cells.length := by simpa using RVl_length hr
          have hcond : (decide (v.cells.size ≠ size) || decide (off + v.cells.size > cv.size)) = false := by simp; omega
          obtain ⟨g1, g2⟩ := cellsV_RV e2 h1
          have hst := fill_step v off cv (by omega)
          obtain ⟨cv', k1, k2, k3⟩ := fill_sound (c := c) (pl := pl) rest vs _ cells' (v.cells.zipIdx.foldl (fun cs (c, j) => cs.setIfInBounds (off + j) c) cv) h (by rw [hst, hsz]; exact RVl_append (RVl_append (RVl_take _ hr) g1) (RVl_drop _ hr))
            (fun u hu => by
              rw [hst] at hu
              simp only [List.mem_append] at hu
              rcases hu with (hu | hu) | hu
              · exact ho u (List.mem_of_mem_take hu)
              · exact g2 u hu
              · exact ho u (List.mem_of_mem_drop hu)) (by simpa using hl) (fun j p q hp1 hq1 => hp (j + 1) p q (by simpa using hp1) (by simpa using hq1))
          refine ⟨cv', ?_, k2, k3⟩
          have hc2 : ¬ (v.cells.size ≠ size) := by omega
          have hc3 : ¬ (off + v.cells.size > cv.size) := by omega
          simp only [hc2, hc3, decide_false, Bool.or_self, Bool.false_eq_true, if_false]
          exact k1
        · cases h

theorem s_build (hr : Rel E s a w η) {T : TypeId} {ps : Array (Nat × Operand)} (ho : o.op = .build T ps) {q : Stp} (h : buildS P T (ps.toList.map fun p => (p.1, s.ev p.2)) = some q) : Done P E s a w o q.e := by
  unfold buildS at h
  split at h
  · rename_i pl z hpl hz
    obtain ⟨cs, hcs, rfl⟩ := Option.map_eq_some_iff.1 h
    unfold zeroV at hz
    cases hi : P.info? T with
    | none => simp [hi] at hz
    | some i =>
      cases hzz : i.zero with
      | none => simp [hi, hzz] at hz
      | some zv =>
        simp only [hi, Option.bind_some, hzz, Option.some.injEq] at hz
        have hzr := cst_RV (c := s.ctx E w η) rfl zv
        rw [hz] at hzr
        simp only [RV] at hzr
        obtain ⟨zc, rfl, h1, h2⟩ := hzr
        obtain ⟨cv', k1, k2, k3⟩ := fill_sound _ (ps.toList.map fun p => (p.1, a.eval p.2)) _ _ zc hcs h1 h2 (by simp) (fun j p q hp hq => by
          rw [List.getElem?_map] at hp hq
          cases hj : ps.toList[j]? with
          | none => simp [hj] at hp
          | some x =>
            simp only [hj, Option.map_some, Option.some.injEq] at hp hq
            subst hp; subst hq
            exact ⟨rfl, ev_sound hr x.2⟩)
        refine Done.val hr (v := .agg cv') (by simp only [RV]; exact ⟨cv', rfl, k2, k3⟩) ?_
        have hb : P.built T (ps.map fun (i, x) => (i, a.eval x)).toList = some cv' := by
          unfold Program.built
          unfold plF at hpl
          split at hpl
          · rename_i n e hu
            obtain ⟨ie, hie, rfl⟩ := Option.map_eq_some_iff.1 hpl
            simp only [hi, hu, hzz, hie]
            simpa [Value.cells] using k1
          · rename_i fs hu
            obtain ⟨places, hpp, rfl⟩ := Option.map_eq_some_iff.1 hpl
            simp only [hi, hu, hzz, hpp]
            simpa [Value.cells] using k1
          · cases hpl
        unfold execOp
        simp only [ho, Sem.run_bind, run_build w T _ cv' hb, Result.andThen_ok, Sem.run_pure]
  · cases h

theorem flat_replicate (z : Value) (e : Nat) (hz : z.cells.size = e) (he : 0 < e) (n : Nat) : (madeCells z.cells (n * e)).toList = flat (List.replicate n z) := by
  have hsz : ∀ u ∈ List.replicate n z, u.cells.size = e := fun u hu => by rw [(List.mem_replicate.1 hu).2]; exact hz
  apply List.ext_getElem?
  intro j
  by_cases hj : j < n * e
  · have hi : j / e < n := by rw [Nat.div_lt_iff_lt_mul he]; exact hj
    have hm : j % e < e := Nat.mod_lt _ he
    have := flat_get hsz (j / e) z (by simp [hi]) (j % e) hm
    rw [show j / e * e + j % e = j by rw [Nat.mul_comm]; exact Nat.div_add_mod j e] at this
    rw [this]
    have hm' : j % e < z.cells.size := by omega
    simp only [madeCells, Array.toList_map, Array.toList_range, List.getElem?_map, hz]
    rw [List.getElem?_range hj, Array.getElem?_eq_getElem hm', Option.map_some, getElem!_pos z.cells (j % e) hm']
  · rw [List.getElem?_eq_none (by simp [madeCells]; omega), List.getElem?_eq_none (by rw [flat_length hsz]; simp; omega)]

theorem bsl_sound {c : Ctx} {e : Nat} : ∀ (parts : List (Nat × V)) (vs : List (Nat × Value)) (xs xs' : List V) (us : List Value) (cv : Array Value), elemsV e xs parts = some xs' → RVl c xs us → (∀ u ∈ us, u.cells.size = e) → (∀ x ∈ flat us, x.oneCell' = true) → cv.toList = flat us →
    vs.length = parts.length → (∀ (j : Nat) p q, parts[j]? = some p → vs[j]? = some q → q.1 = p.1 ∧ RV c p.2 q.2) →
    ∃ cv' us', Instr.fill (fun i => some (i * e, e)) cv vs = some cv' ∧ cv'.toList = flat us' ∧ RVl c xs' us' ∧ (∀ u ∈ us', u.cells.size = e) ∧ (∀ x ∈ flat us', x.oneCell' = true)
  | [], vs, xs, xs', us, cv, h, hr, hs, ho, hcv, hl, _ => by
    cases vs with
    | cons _ _ => simp at hl
    | nil =>
      simp only [elemsV, Option.some.injEq] at h
      subst h
      exact ⟨cv, us, rfl, hcv, hr, hs, ho⟩
  | (i, x) :: rest, vs, xs, xs', us, cv, h, hr, hs, ho, hcv, hl, hp => by
    cases vs with
    | nil => simp at hl
    | cons q vs =>
      obtain ⟨i', v⟩ := q
      obtain ⟨e1, e2⟩ := hp 0 (i, x) (i', v) (by simp) (by simp)
      simp only at e1 e2
      subst e1
      simp only [elemsV] at h
      simp only [Instr.fill]
      split at h
      · rename_i hc
        obtain ⟨h1, h2, h3⟩ := hc
        have hsz : v.cells.size = e := by rw [RV_size e2 (h1.symm), h2]
        have hlen := RVl_length hr
        have hul : i' < us.length := by omega
        have hu : us[i']? = some us[i'] := List.getElem?_eq_getElem hul
        have hcl : cv.size = xs.length * e := by
          have := congrArg List.length hcv
          rw [flat_length hs, hlen] at this
          simpa using this
        have hie : (i' + 1) * e ≤ xs.length * e := Nat.mul_le_mul_right _ h3
        rw [Nat.add_mul] at hie
        obtain ⟨g1, g2⟩ := cellsV_RV e2 h1
        have hst := fill_step v (i' * e) cv (by omega)
        obtain ⟨cv', us', k1, k2, k3, k4, k5⟩ := bsl_sound (c := c) (e := e) rest vs _ xs' (us.set i' v) (v.cells.zipIdx.foldl (fun cs (c, j) => cs.setIfInBounds (i' * e + j) c) cv) h (RVl_set hr e2)
          (fun u hu => by
            rcases List.mem_or_eq_of_mem_set hu with hu | hu
            · exact hs u hu
            · rw [hu]; exact hsz)
          (fun y hy => by
            obtain ⟨u, hu, hyu⟩ := List.mem_flatMap.1 hy
            rcases List.mem_or_eq_of_mem_set hu with hu | hu
            · exact ho y (mem_flat hu hyu)
            · rw [hu] at hyu; exact g2 y hyu)
          (by rw [hst, hcv, hsz, flat_set hs i' us[i'] v hu hsz]) (by simpa using hl) (fun j p q hp1 hq1 => hp (j + 1) p q (by simpa using hp1) (by simpa using hq1))
        refine ⟨cv', us', ?_, k2, k3, k4, k5⟩
        have hc2 : ¬ (v.cells.size ≠ e) := by omega
        have hc3 : ¬ (i' * e + v.cells.size > cv.size) := by omega
        simp only [hc2, hc3, decide_false, Bool.or_self, Bool.false_eq_true, if_false]
        exact k1
      · cases h

/-- A new row. -/
theorem lay_arr (hr : Rel E s a w η) {fid : Nat} {T : TypeId} {e n cap : Nat} {xs : List V} {us : List Value} {cv : Array Value} (hf : ¬ s.kn fid) (he : 0 < e) (hxs : RVl (s.ctx E w η) xs us) (hsz : ∀ u ∈ us, u.cells.size = e) (hone : ∀ x ∈ flat us, x.oneCell' = true)
    (hn : n = xs.length) (hlen : n ≤ 140737488355328) (hrow : (w.alloc (.cells cv T)).ownsRow 0 T e (.slice (some ⟨w.heap.size, 0, none⟩) n cap) n (flat us))
    (h : (execOp a.eval o).run P w = .ok (.value (.slice (some ⟨w.heap.size, 0, none⟩) n cap)) (w.alloc (.cells cv T))) :
    Done P E s a w o ⟨.obj fid n, [(fid, ⟨.arr, T, e, xs⟩)], []⟩ := by
  subst hn
  have L := hr.lay (w' := w.alloc (.cells cv T)) fid ⟨.arr, T, e, xs⟩ (.slice (some ⟨w.heap.size, 0, none⟩) xs.length cap) none (World.grownBy_alloc w _ none) (.inl ⟨hf, rfl⟩)
    (by simp) he hlen (fun b hb => by simp [blk] at hb; exact .inl (by omega)) (by simp) us hxs hsz hone hrow (by simp) (fun o2 h2 _ hkn => absurd hkn hf)
  have := L.put o.dst (x := .obj fid xs.length) (v := .slice (some ⟨w.heap.size, 0, none⟩) xs.length cap) (by
    simp only [RV, FSt.ctx]
    exact ⟨⟨_, _, _, rfl⟩, trivial, .inl trivial, by simp⟩)
  rw [← FSt.app_one s o.dst (.obj fid xs.length) fid _ []] at this
  exact ⟨_, _, _, h, .inl ⟨_, rfl, this⟩⟩

theorem zero_of {T : TypeId} {z : V} (hz : zeroV P T = some z) : ∃ i zv, P.info? T = some i ∧ i.zero = some zv ∧ z = cst zv := by
  unfold zeroV at hz
  cases hi : P.info? T with
  | none => simp [hi] at hz
  | some i =>
    cases hzz : i.zero with
    | none => simp [hi, hzz] at hz
    | some zv =>
      simp only [hi, Option.bind_some, hzz, Option.some.injEq] at hz
      exact ⟨i, zv, rfl, hzz, hz.symm⟩

theorem RVl_replicate {c : Ctx} {x : V} {v : Value} (h : RV c x v) : ∀ n, RVl c (List.replicate n x) (List.replicate n v)
  | 0 => by simp [RVl]
  | n + 1 => by simp only [List.replicate_succ, RVl]; exact ⟨_, _, rfl, h, RVl_replicate h n⟩

theorem elemsV_length {e : Nat} : ∀ {parts : List (Nat × V)} {xs xs' : List V}, elemsV e xs parts = some xs' → xs'.length = xs.length
  | [], xs, xs', h => by simp only [elemsV, Option.some.injEq] at h; rw [h]
  | (i, v) :: r, xs, xs', h => by
    simp only [elemsV] at h
    split at h
    · rw [elemsV_length h]; simp
    · cases h

theorem s_bsl (hr : Rel E s a w η) {fid : Nat} {T len : Nat} {ps : Array (Nat × Operand)} (ho : o.op = .buildSlice T len ps) {q : Stp} (h : bslS P fid T len (ps.toList.map fun p => (p.1, s.ev p.2)) = some q) (hs : q.side) (hf : ¬ s.kn fid) : Done P E s a w o q.e := by
  unfold bslS at h
  split at h
  · cases h
  · rename_i E' hT
    split at h
    · cases h
    · rename_i z hz
      obtain ⟨xs, hxs, rfl⟩ := Option.map_eq_some_iff.1 h
      obtain ⟨i, zv, hi, hzz, rfl⟩ := zero_of hz
      obtain ⟨hc, hzs, hzsc, hlen⟩ := hs
      have hzr := cst_RV (c := s.ctx E w η) rfl zv
      have hzsize : zv.cells.size = P.cellsOf E' := by rw [RV_size hzr hzsc]; exact hzs
      have hisz : i.size = P.cellsOf E' := by simp [Program.cellsOf, hi]
      have hzone := (cellsV_RV hzr (hzsc.symm)).2
      have hfr := flat_replicate zv _ hzsize hc len
      obtain ⟨cv', us', k1, k2, k3, k4, k5⟩ := bsl_sound _ (ps.toList.map fun p => (p.1, a.eval p.2)) _ xs (List.replicate len zv) (madeCells zv.cells (len * P.cellsOf E')) hxs (RVl_replicate hzr len)
        (fun u hu => by rw [(List.mem_replicate.1 hu).2]; exact hzsize) (fun y hy => by
          obtain ⟨u, hu, hyu⟩ := List.mem_flatMap.1 hy
          rw [(List.mem_replicate.1 hu).2] at hyu; exact hzone y hyu) hfr (by simp) (fun j p q hp hq => by
          rw [List.getElem?_map] at hp hq
          cases hj : ps.toList[j]? with
          | none => simp [hj] at hp
          | some x =>
            simp only [hj, Option.map_some, Option.some.injEq] at hp hq
            subst hp; subst hq
            exact ⟨rfl, ev_sound hr x.2⟩)
      have hxl : xs.length = len := by rw [elemsV_length hxs]; simp
      have hcs : cv'.size = len * P.cellsOf E' := by
        have := congrArg List.length k2
        rw [flat_length k4, RVl_length k3, hxl] at this
        simpa using this
      have hrow := World.ownsRow_lit (base := 0) (e := E') (size := P.cellsOf E') w cv' len (Nat.zero_le _) (by
        have : len ≤ len * P.cellsOf E' := Nat.le_mul_of_pos_right _ hc
        unfold maxLen; omega) hcs
      rw [k2] at hrow
      have hll : len ≤ 16777216 := by
        have : len ≤ len * P.cellsOf E' := Nat.le_mul_of_pos_right _ hc
        omega
      refine lay_arr hr hf hc k3 k4 k5 hxl.symm (by omega) hrow ?_
      have hkk : Instr.fill (fun i => some (i * P.cellsOf E', P.cellsOf E')) (madeCells zv.cells (len * P.cellsOf E')) (ps.toList.map fun p => (p.1, a.eval p.2)) = some cv' := k1
      unfold execOp
      unfold madeCells at hkk
      by_cases h0 : len * P.cellsOf E' = 0
      · rw [h0] at hkk
        have hlen0 : ¬ (16777216 < len * P.cellsOf E') := by omega
        have hz0 : len = 0 := by
          rcases Nat.mul_eq_zero.1 h0 with h | h
          · exact h
          · omega
        subst hz0
        have hm0 : (Array.map (fun x => zv.cells[x % zv.cells.size]!) (Array.range 0)) = #[] := by simp
        rw [hm0] at hkk
        simp [ho, Instr.buildSlice, run_underlying (elemOf_und hT), cellsOf_run hc, newRow, Array.range_zero', hkk]
      · have hlen0 : ¬ (16777216 < len * P.cellsOf E') := by omega
        simp [ho, Instr.buildSlice, run_underlying (elemOf_und hT), cellsOf_run hc, h0, hlen0, hkk, newRow, zeroValue, typeInfo, hi, hzz]

theorem s_make (hr : Rel E s a w η) {fid : Nat} {T : Nat} {l c : Operand} (ho : o.op = .makeSlice T l c) {q : Stp} (h : makeS P fid T (s.ev l) (s.ev c) = some q) (hs : q.side) (hf : ¬ s.kn fid) : Done P E s a w o q.e := by
  have hl := ev_sound hr l
  have hcc := ev_sound hr c
  generalize s.ev l = L at *
  generalize s.ev c = C at *
  unfold makeS at h
  split at h
  · cases h
  · rename_i E' hT
    split at h
    · rename_i z k n k' m hz
      cases h
      obtain ⟨i, zv, hi, hzz, rfl⟩ := zero_of hz
      obtain ⟨hc, hzs, hzsc, h0, h1, h2, h3⟩ := hs
      have hzr := cst_RV (c := s.ctx E w η) rfl zv
      have hzsize : zv.cells.size = P.cellsOf E' := by rw [RV_size hzr hzsc]; exact hzs
      have hisz : i.size = P.cellsOf E' := by simp [Program.cellsOf, hi]
      have hib : i.bytes = P.bytesOf E' := by simp [Program.bytesOf, hi]
      have hzone := (cellsV_RV hzr (hzsc.symm)).2
      simp only [RV] at hl hcc
      have hrun := run_make (P := P) w T E' i zv (elemOf_und hT) hi hzz k k' n m h0 h1 (by rw [hib]; omega) (by omega)
      have hfr := flat_replicate zv _ hzsize hc m.toNat
      rw [hisz] at hrun
      have hrow : (w.alloc (.cells (madeCells zv.cells (m.toNat * P.cellsOf E')) E')).ownsRow 0 E' (P.cellsOf E') (.slice (some ⟨w.heap.size, 0, none⟩) n.toNat m.toNat) n.toNat (flat (List.replicate n.toNat zv)) := by
        refine ⟨?_, .inr ⟨w.heap.size, m.toNat, _, rfl, Nat.zero_le _, heap_alloc_new w _, by omega, by unfold maxLen; omega, size_madeCells _ _, ?_⟩⟩
        · rw [flat_length (e := P.cellsOf E') (fun u hu => by rw [(List.mem_replicate.1 hu).2]; exact hzsize)]; simp
        · rw [hfr]
          have := flat_take_drop (e := P.cellsOf E') (us := List.replicate m.toNat zv) (fun u hu => by rw [(List.mem_replicate.1 hu).2]; exact hzsize) 0 n.toNat
          simp only [List.drop_zero, Nat.zero_mul] at this
          rw [← this, List.take_replicate]
          congr 2; omega
      refine lay_arr hr hf hc (RVl_replicate hzr n.toNat) (fun u hu => by rw [(List.mem_replicate.1 hu).2]; exact hzsize) (fun y hy => by
          obtain ⟨u, hu, hyu⟩ := List.mem_flatMap.1 hy
          rw [(List.mem_replicate.1 hu).2] at hyu; exact hzone y hyu) (by simp) (by omega) hrow ?_
      unfold execOp
      simp only [ho, hl.1, hcc.1, Sem.run_bind, hrun, Result.andThen_ok, Sem.run_pure]
    · cases h

theorem minmax_run {c : Ctx} {big : Bool} {l : List Operand} {y : V} {q : Array TypeId} {ρ : Operand → V} {σ : Operand → Value} (w : World) (T : TypeId) (hy : minV big (l.map ρ) = some y) (hr : RVl c (l.map ρ) (l.map σ)) :
    ∃ v, ((if big then Builtin.max_ else Builtin.min_) q T (l.map σ).toArray).run P w = .ok v w ∧ RV c y v := by
  obtain ⟨v, h, hv⟩ := minV_sound (P := P) big w _ _ _ y rfl hy hr
  exact ⟨v, by cases big <;> exact h, hv⟩

/-- What a source shows, of what is known of it. -/
theorem src_of {hp : Heap} {e : Nat} {x : V} {ys : List V} {rd : List Nat} {p : Prop} (h : srcOf hp e x = some (ys, rd, p)) (hp' : p) :
    (x = .nilS ∧ ys = []) ∨ (x = .nl ∧ ys = []) ∨ x = .sl e ys ∨ x = .sn e ys ∨ ∃ id n ob, x = .obj id n ∧ hp id = some ob ∧ n = ob.xs.length ∧ e = ob.e ∧ ys = ob.xs := by
  unfold srcOf at h
  split at h
  · cases h; exact .inl ⟨rfl, rfl⟩
  · cases h; exact .inr (.inl ⟨rfl, rfl⟩)
  · cases h; subst hp'; exact .inr (.inr (.inl rfl))
  · cases h; subst hp'; exact .inr (.inr (.inr (.inl rfl)))
  · split at h
    · rename_i ob hid
      cases h; exact .inr (.inr (.inr (.inr ⟨_, _, ob, rfl, hid, hp'.1, hp'.2, rfl⟩)))
    · cases h
  · cases h

theorem bytesV_sound {c : Ctx} : ∀ (xs : List V) (us : List Value) (l : List UInt8), bytesV xs = some l → RVl c xs us → ∃ ns : List Int, us = ns.map (Value.int .u8) ∧ ns.map (fun n => UInt8.ofNat n.toNat) = l
  | [], us, l, h, hr => by
    simp only [bytesV, Option.some.injEq] at h
    simp only [RVl] at hr
    subst h; subst hr
    exact ⟨[], rfl, rfl⟩
  | x :: xs, us, l, h, hr => by
    simp only [RVl] at hr
    obtain ⟨u, r, rfl, h1, h2⟩ := hr
    unfold bytesV at h
    split at h
    · rename_i heq; cases heq
    · rename_i n r' heq
      cases heq
      obtain ⟨l', hl', rfl⟩ := Option.map_eq_some_iff.1 h
      obtain ⟨ns, rfl, rfl⟩ := bytesV_sound xs r l' hl' h2
      simp only [RV] at h1
      rw [h1.1]
      exact ⟨n :: ns, rfl, rfl⟩
    · cases h
theorem foldl_push : ∀ (ns : List Int) (s : ByteArray), ns.foldl (fun r n => r.push (UInt8.ofNat n.toNat)) s = ⟨s.data ++ (ns.map fun n => UInt8.ofNat n.toNat).toArray⟩
  | [], s => by simp
  | n :: ns, s => by
    rw [List.foldl_cons, foldl_push ns]
    simp [ByteArray.push]

theorem s_str (hr : Rel E s a w η) {src dst E' : TypeId} {x : Operand} (ho : o.op = .convert src dst x) (h1 : P.underlying src = some (.slice E')) (h2 : P.underlying dst = some .string) {q : Stp} (hp : strS P s.hp E' (s.ev x) = some q) (hs : q.side) : Done P E s a w o q.e := by
  unfold strS at hp
  split at hp
  · rename_i xs rd p hE hsrc
    obtain ⟨l, hl, rfl⟩ := Option.map_eq_some_iff.1 hp
    obtain ⟨ao, c, us, hv, hus, hsz, hone, hnone, hcell⟩ := src_rows hr (ev_sound hr x) (src_of hsrc hs)
    obtain ⟨ns, rfl, rfl⟩ := bytesV_sound xs us l hl hus
    have hlen := RVl_length hus
    have hflat : flat (ns.map (Value.int .u8)) = ns.map (Value.int .u8) := flat_ones fun x hx => by
      obtain ⟨n, _, rfl⟩ := List.mem_map.1 hx
      rfl
    have hrun : (convert src dst (.slice ao xs.length c)).run P w = .ok (.string ⟨(ns.map fun n => UInt8.ofNat n.toNat).toArray⟩) w := by
      rw [run_convert_bytes_string w src dst E' ao _ c h1 hE h2]
      cases ao with
      | none =>
        have h0 := hnone rfl
        have : ns = [] := List.eq_nil_of_length_eq_zero (by simpa [h0] using hlen)
        subst this
        simp [Conv.bytesToString]
        rfl
      | some ad =>
        have hc2 := run_loadCells_list (P := P) w ad (ns.map (Value.int .u8)) (fun j v hj => hcell ad rfl j v (by rw [hflat]; exact hj))
        rw [List.length_map, show ns.length = xs.length by simpa using hlen] at hc2
        rw [run_bytesToString w ad _ c ns hc2, foldl_push]
        simp [ByteArray.empty, ByteArray.emptyWithCapacity]
        rfl
    exact Done.val hr (v := .string ⟨(ns.map fun n => UInt8.ofNat n.toNat).toArray⟩) (by simp only [RV]) (by unfold execOp; simp [ho, hv, hrun])
  · cases hp

theorem s_window (hr : Rel E s a w η) {T na E' : Nat} {x : Operand} {lo hi : Option Operand} (ho : o.op = .slice T x lo hi none) {id n i o' : Nat} {ob : Obj} {l h : Int} {rd : List Nat} (hT : arrOfT P T = some (na, E')) (hx : s.ev x = .ptr id n i o') (hid : s.hp id = some ob)
    (hl : bnd 0 (lo.map s.ev) = some l) (hh : bnd na (hi.map s.ev) = some h) (hn : n = ob.xs.length) (hE : P.cellsOf E' = 1) (h0 : 0 ≤ l) (hln : l < na) (h1 : l ≤ h) (h2 : h ≤ na) (hna : na ≤ 140737488355328) :
    Done P E s a w o ⟨.win id n i (o' + l.toNat) (h.toNat - l.toNat), [], rd⟩ := by
  obtain ⟨hkm, b, hb, hv⟩ := ptr_addr hr hx hid hn
  have hxx := ev_sound hr x
  rw [hx] at hxx
  simp only [RV] at hxx
  obtain ⟨_, _, hkn, hxx⟩ := hxx
  simp only [FSt.ctx, hid] at hxx
  have hbd := bounds_run (P := P) (b := false) (cap := na) hr hl hh h0 h1 h2 (Nat.le_refl _)
  refine Done.val hr (v := .slice (some ⟨b, i * ob.e + (o' + l.toNat), none⟩) (h.toNat - l.toNat) (na - l.toNat)) ?_ ?_
  · simp only [RV, FSt.ctx, hid]
    exact ⟨⟨_, _, _, rfl⟩, trivial, hkn, hkm, by omega, fun _ => ⟨b, na - l.toNat, hb, rfl, by omega, by omega⟩⟩
  · unfold execOp
    have hne : ¬ na = l.toNat := by omega
    have hadd : (⟨b, i * ob.e + o', none⟩ : Addr).add l.toNat = ⟨b, i * ob.e + (o' + l.toNat), none⟩ := by rw [Addr.add_mid, Nat.add_assoc]
    simp only [ho, hv, Option.map_none, Sem.run_bind]
    simp [Instr.sliceAt, run_underlying (arrOf_und hT), Instr.sureAddr, hbd, cellsOf_run (show 0 < P.cellsOf E' by omega), hE, hne, hadd]

/-- Some cells of one element of a row are written. -/
theorem lay_cells (hr : Rel E s a w η) {id i o' : Nat} {ob : Obj} (hid : s.hp id = some ob) (hkm : ob.k ≠ .map) {b : Nat} (hb : blk (η id) = some b) (hi : i < ob.xs.length) (hk : ob.k ≠ .ro) {cs ys : List V} (hcs : ob.xs[i]? = some (.agg cs)) {vs : List Value} (hys : RVl (s.ctx E w η) ys vs) (hone : ∀ v ∈ vs, v.oneCell' = true) (hoe : o' + vs.length ≤ cs.length) :
    (∀ P' : Program, (storeCells ⟨b, i * ob.e + o', none⟩ vs 0).run P' w = .ok () (w.setCells b (i * ob.e + o') vs)) ∧
    Rel E { s with hp := fun j => if j = id then some { ob with xs := ob.xs.set i (.agg (cs.take o' ++ ys ++ cs.drop (o' + vs.length))) } else s.hp j, kn := fun j => j = id ∨ s.kn j } a (w.setCells b (i * ob.e + o') vs) (fun j => if j = id then η id else η j) := by
  obtain ⟨hpos, hkn, hlen, us, r1, r2, r3, r4⟩ := laid_row hr hid hkm
  obtain ⟨u, hu, hxu⟩ := RVl_get r1 i _ hcs
  have humem := List.mem_of_getElem? hu
  simp only [RV] at hxu
  obtain ⟨cv, rfl, hc1, hc2⟩ := hxu
  have hcl := RVl_length hc1
  have huc : cv.size = ob.e := r2 _ humem
  have hvl := RVl_length hys
  have hcvl : cv.toList.length = cs.length := hcl
  have hce : cs.length = ob.e := by rw [← hcvl]; simpa using huc
  let u' : Value := .agg (cv.toList.take o' ++ vs ++ cv.toList.drop (o' + vs.length)).toArray
  have hcells : u'.cells.toList = cv.toList.take o' ++ vs ++ cv.toList.drop (o' + vs.length) := by simp [u', Value.cells]
  have hu' : RV (s.ctx E w η) (.agg (cs.take o' ++ ys ++ cs.drop (o' + vs.length))) u' := by
    simp only [RV]
    refine ⟨_, rfl, ?_, fun x hx => ?_⟩
    · simp only
      exact RVl_append (RVl_append (RVl_take _ hc1) hys) (RVl_drop _ hc1)
    · simp only [List.mem_append] at hx
      rcases hx with (hx | hx) | hx
      · exact hc2 x (List.mem_of_mem_take hx)
      · exact hone x hx
      · exact hc2 x (List.mem_of_mem_drop hx)
  rcases r4.2 with ⟨h0, h1⟩ | ⟨g, cap, cur, hη, hrest⟩
  · omega
  · have hbg : b = g := by rw [hη] at hb; simp [blk] at hb; exact hb.symm
    subst hbg
    have r4' := r4
    rw [hη] at r4'
    have hthere := row_there r4 hb i o' vs.length hi (by omega)
    have hrun : ∀ P' : Program, (storeCells ⟨b, i * ob.e + o', none⟩ vs 0).run P' w = .ok () (w.setCells b (i * ob.e + o') vs) := fun P' => by
      have := run_storeCells_cells (P := P') b (i * ob.e + o') vs 0 w (fun j hj => by simpa using (hthere j (by simpa using hj)).1) (fun j hj => by simpa using (hthere j (by simpa using hj)).2) hone
      simpa using this
    refine ⟨hrun, ?_⟩
    have hulen : us.length = ob.xs.length := RVl_length r1
    have hie : (i + 1) * ob.e ≤ ob.xs.length * ob.e := Nat.mul_le_mul_right _ hi
    rw [Nat.add_mul] at hie
    have hfl : (flat us).length = ob.xs.length * ob.e := by rw [flat_length r2, hulen]
    obtain ⟨q1, q2⟩ := row_stored vs (i * ob.e + o') w (flat us) r4' (by omega)
    have hu'c : u'.cells.size = ob.e := by
      have := congrArg List.length hcells
      simp only [Array.length_toList, List.length_append, List.length_take, List.length_drop] at this
      rw [show cv.size = cv.toList.length from by simp] at this
      omega
    have hflat : (flat us).take (i * ob.e + o') ++ vs ++ (flat us).drop (i * ob.e + o' + vs.length) = flat (us.set i u') := by
      rw [flat_set r2 i (.agg cv) u' hu hu'c, hcells]
      have hsplit : flat us = (flat us).take (i * ob.e) ++ cv.toList ++ (flat us).drop (i * ob.e + ob.e) := by
        have := flat_set r2 i (.agg cv) (.agg cv) hu huc
        have hself : us.set i (.agg cv) = us := by
          apply List.ext_getElem?
          intro j
          rw [List.getElem?_set]
          split
          · rename_i hij; subst hij
            have := (List.getElem?_eq_some_iff.1 hu).1
            simp [this, ← hu]
          · rfl
        rw [hself] at this
        exact this
      have e1 : (flat us).take (i * ob.e + o') = (flat us).take (i * ob.e) ++ cv.toList.take o' := by
        conv => lhs; rw [hsplit]
        rw [List.append_assoc, List.take_append, List.take_of_length_le (by simp; omega)]
        simp only [List.length_take, hfl]
        rw [show min (i * ob.e) (ob.xs.length * ob.e) = i * ob.e by omega, Nat.add_sub_cancel_left]
        rw [List.take_append_of_le_length (by omega)]
      have e2 : (flat us).drop (i * ob.e + o' + vs.length) = cv.toList.drop (o' + vs.length) ++ (flat us).drop (i * ob.e + ob.e) := by
        conv => lhs; rw [hsplit]
        rw [List.append_assoc, List.drop_append, List.drop_of_length_le (by simp; omega)]
        simp only [List.length_take, hfl, List.nil_append]
        rw [show min (i * ob.e) (ob.xs.length * ob.e) = i * ob.e by omega, show i * ob.e + o' + vs.length - i * ob.e = o' + vs.length by omega]
        rw [List.drop_append_of_le_length (by omega)]
      rw [e1, e2]; simp only [List.append_assoc]
    rw [hflat] at q1
    exact hr.lay (w' := w.setCells b (i * ob.e + o') vs) id { ob with xs := ob.xs.set i (.agg (cs.take o' ++ ys ++ cs.drop (o' + vs.length))) } (η id) (blk (η id)) (by rw [hb]; exact q2)
      (.inr ⟨ob, hid, hk, rfl, rfl, by simp, fun _ => rfl⟩) hk hpos (by simpa using hlen) (fun b' hb' => .inr hb') (fun hbx => (hr.laid.obj id ob hid).box hbx) (us.set i u') (RVl_set r1 hu') (fun v hv => by
        rcases List.mem_or_eq_of_mem_set hv with hv | hv
        · exact r2 v hv
        · rw [hv]; exact hu'c) (fun y hy => by
        obtain ⟨v, hv, hyv⟩ := List.mem_flatMap.1 hy
        rcases List.mem_or_eq_of_mem_set hv with hv | hv
        · exact r3 y (mem_flat hv hyv)
        · rw [hv, hcells] at hyv
          simp only [List.mem_append] at hyv
          rcases hyv with (hyv | hyv) | hyv
          · exact hc2 y (List.mem_of_mem_take hyv)
          · exact hone y hyv
          · exact hc2 y (List.mem_of_mem_drop hyv)) (by simpa [hη] using q1) hkm (fun o2 h2 _ _ => by rw [hid] at h2; cases h2; exact hkm)

theorem scs_one {c : Ctx} : ∀ {xs : List V} {us : List Value}, scs xs = true → RVl c xs us → ∀ u ∈ us, u.oneCell' = true
  | [], us, _, h => by simp only [RVl] at h; subst h; simp
  | x :: xs, us, hs, h => by
    simp only [RVl] at h
    obtain ⟨u, r, rfl, h1, h2⟩ := h
    simp only [scs, Bool.and_eq_true] at hs
    intro v hv
    rcases List.mem_cons.1 hv with rfl | hv
    · exact RV_sc h1 hs.1
    · exact scs_one hs.2 h2 v hv
theorem flat_take {e : Nat} {us : List Value} (h : ∀ u ∈ us, u.cells.size = e) (m : Nat) : flat (us.take m) = (flat us).take (m * e) := by
  have := flat_take_drop h 0 m
  simpa using this

theorem i64_rv {c : Ctx} {n : Nat} (h : n ≤ 140737488355328) : RV c (.int .i64 (n : Int)) (.int .i64 (n : Int)) := by
  simp only [RV, true_and, IntKind.has, IntKind.min, IntKind.max, IntKind.signed, IntKind.bits]
  constructor <;> simp <;> omega

theorem s_copy (hr : Rel E s a w η) {T : TypeId} {d x : Operand} (ho : o.op = .call { callee := .builtin .copy, args := #[d, x], argTypes := #[T, T] }) {q : Stp} (hp : copyS P s.hp T (s.ev d) (s.ev x) = some q) (hs : q.side) : Done P E s a w o q.e := by
  unfold copyS at hp
  split at hp
  · cases hp
  · rename_i E' hT
    split at hp
    · rename_i id n i o' k hd
      split at hp
      · rename_i ob ys rd p hid hsrc
        split at hp
        · rename_i cs hcs
          cases hp
          obtain ⟨hpp, hE, hn, hi, hok, hk, hsc⟩ := hs
          obtain ⟨ao, c, us, hv, hus, hsz, _, hnone, hcell⟩ := src_rows hr (ev_sound hr x) (src_of hsrc hpp)
          have hlen := RVl_length hus
          have hdv := ev_sound hr d
          rw [hd] at hdv
          simp only [RV] at hdv
          obtain ⟨_, _, _, hdv⟩ := hdv
          simp only [FSt.ctx, hid] at hdv
          obtain ⟨hkm, _, hdv⟩ := hdv
          obtain ⟨b, cap, hb, hdv, hkc, hkl⟩ := hdv hn
          have hxi : ob.xs[i]? = some (.agg cs) := by
            rw [nth_eq] at hcs
            rw [List.getElem?_eq_getElem hi]
            rw [List.getD_eq_getElem?_getD, List.getElem?_eq_getElem hi] at hcs
            simpa using hcs
          have hone := scs_one hsc hus
          have hfl := flat_ones hone
          have hmk : min k ys.length ≤ ys.length := by omega
          have hmin : Nat.min ys.length k = min k ys.length := by
            show min ys.length k = min k ys.length
            omega
          generalize hm : min k ys.length = m at *
          have hmu : (us.take m).length = m := by rw [List.length_take]; omega
          have hfc : (Builtin.firstCells 1 m (.slice ao ys.length c)).run P w = .ok (us.take m).toArray w := by
            cases ao with
            | none =>
              have h0 := hnone rfl
              have : m = 0 := by omega
              subst this
              simp [Builtin.firstCells]
            | some ad =>
              have := run_loadCells_list (P := P) w ad (us.take m) (fun j v hj => hcell ad rfl j v (by
                rw [hfl]
                rw [List.getElem?_take] at hj
                split at hj
                · exact hj
                · cases hj))
              rw [hmu] at this
              simp [Builtin.firstCells, this]
          obtain ⟨hst, L⟩ := lay_cells hr hid hkm hb hi hk (o' := o') hxi (RVl_take m hus) (fun v hv' => hone v (List.mem_of_mem_take hv')) (by rw [hmu]; omega)
          rw [hmu] at L
          have hrun : (execOp a.eval o).run P w = .ok (.value (.int .i64 (m : Int))) (w.setCells b (i * ob.e + o') (us.take m)) := by
            unfold execOp
            simp [ho, hdv, hv, resolve, invoke, builtin, Builtin.copy_, run_underlying (elemOf_und hT), Builtin.lenOf, hmin, cellsOf_run (show 0 < P.cellsOf E' by omega), hE, hfc, hst P, goInt]
          have L2 := L.put o.dst (x := .int .i64 (m : Int)) (v := .int .i64 (m : Int)) (i64_rv (by omega))
          rw [← FSt.app_one s o.dst (.int .i64 (m : Int)) id _ (id :: rd)] at L2
          exact ⟨_, _, _, hrun, .inl ⟨_, rfl, L2⟩⟩
        · cases hp
      · cases hp
    · rename_i id n hd
      split at hp
      · rename_i ob ys rd p hid hsrc
        cases hp
        obtain ⟨hpp, hE, he, hn, hn0, hk⟩ := hs
        obtain ⟨ao, c, us, hv, hus, hsz, hone, hnone, hcell⟩ := src_rows hr (ev_sound hr x) (src_of hsrc hpp)
        have hlen := RVl_length hus
        have hdv := ev_sound hr d
        rw [hd] at hdv
        simp only [RV] at hdv
        obtain ⟨_, _, _, hdv⟩ := hdv
        simp only [FSt.ctx, hid] at hdv
        obtain ⟨hkm, _, hdv⟩ := hdv
        have hη := hdv hn
        obtain ⟨hpos, hkn, hol, vs, r1, r2, r3, r4⟩ := laid_row hr hid hkm
        have hvl := RVl_length r1
        have hmk : min n ys.length ≤ ys.length ∧ min n ys.length ≤ n := by omega
        have hmin : Nat.min ys.length n = min n ys.length := by
          show min ys.length n = min n ys.length
          omega
        generalize hm : min n ys.length = m at *
        have hmu : (us.take m).length = m := by rw [List.length_take]; omega
        have hsz' : ∀ u ∈ us.take m, u.cells.size = P.cellsOf E' := fun u hu => hsz u (List.mem_of_mem_take hu)
        have hfl : (flat (us.take m)).length = m * P.cellsOf E' := by rw [flat_length hsz', hmu]
        rcases r4.2 with ⟨h0, h1⟩ | ⟨g, cp, cur, h3, h5⟩
        · omega
        · have hb : blk (η id) = some g := by rw [h3]; rfl
          have r4' := r4
          rw [h3] at r4'
          have hdv2 : a.eval d = .slice (some ⟨g, 0, none⟩) n cp := by rw [hη, h3, hn]
          have hfc : (Builtin.firstCells (P.cellsOf E') m (.slice ao ys.length c)).run P w = .ok (flat (us.take m)).toArray w := by
            cases ao with
            | none =>
              have h0 := hnone rfl
              have : m = 0 := by omega
              subst this
              simp [Builtin.firstCells, flat]
            | some ad =>
              have := run_loadCells_list (P := P) w ad (flat (us.take m)) (fun j v hj => hcell ad rfl j v (by
                rw [flat_take hsz, List.getElem?_take] at hj
                split at hj
                · exact hj
                · cases hj))
              rw [hfl] at this
              simp [Builtin.firstCells, this]
          have hfv : (flat vs).length = n * ob.e := by rw [flat_length r2, hvl, hn]
          have hle : m * P.cellsOf E' ≤ n * ob.e := by rw [he]; exact Nat.mul_le_mul_right _ hmk.2
          have hthere : ∀ j, j < (flat (us.take m)).length → (w.cell? ⟨g, 0 + 0 + j, none⟩).isSome = true ∧ w.frozen? ⟨g, 0 + 0 + j, none⟩ = false := fun j hj => by
            have hje : j / ob.e < ob.xs.length := by
              rw [hfl] at hj
              rw [← hn]
              exact Nat.div_lt_of_lt_mul (by rw [Nat.mul_comm]; omega)
            have hjm : j % ob.e < ob.e := Nat.mod_lt _ hpos
            have := row_there r4 hb (j / ob.e) (j % ob.e) 1 hje (by omega)
            have hj2 := this 0 (by omega)
            have hjj : j / ob.e * ob.e + j % ob.e = j := by rw [Nat.mul_comm]; exact Nat.div_add_mod j ob.e
            simpa [hjj] using hj2
          have honeu : ∀ v ∈ flat (us.take m), v.oneCell' = true := fun v hv' => hone v (by rw [flat_take hsz] at hv'; exact List.mem_of_mem_take hv')
          have hst := run_storeCells_cells (P := P) g 0 (flat (us.take m)) 0 w (fun j hj => (hthere j hj).1) (fun j hj => (hthere j hj).2) honeu
          simp only [Nat.add_zero] at hst
          obtain ⟨q1, q2⟩ := row_stored (flat (us.take m)) 0 w (flat vs) r4' (by omega)
          have hflat : (flat vs).take 0 ++ flat (us.take m) ++ (flat vs).drop (0 + (flat (us.take m)).length) = flat (us.take m ++ vs.drop m) := by
            rw [List.take_zero, List.nil_append, flat_append, hfl, Nat.zero_add]
            congr 1
            have := flat_take_drop r2 m vs.length
            rw [List.take_of_length_le (Nat.le_refl _), List.take_of_length_le (by rw [flat_length r2]; exact Nat.le_refl _)] at this
            rw [this, he]
          rw [hflat] at q1
          have hlenx : (ys.take m ++ ob.xs.drop m).length = ob.xs.length := by rw [List.length_append, List.length_take, List.length_drop]; omega
          have L := hr.lay (w' := w.setCells g 0 (flat (us.take m))) id { ob with xs := ys.take m ++ ob.xs.drop m } (η id) (blk (η id)) (by rw [hb]; exact q2)
            (.inr ⟨ob, hid, by rw [hk]; simp, rfl, rfl, by rw [hlenx]; exact Nat.le_refl _, fun _ => rfl⟩) (by rw [hk]; simp) hpos (by rw [hlenx]; exact hol) (fun b' hb' => .inr hb') (fun hbx => by rw [hk] at hbx; cases hbx) (us.take m ++ vs.drop m) (RVl_append (RVl_take m hus) (RVl_drop m r1)) (fun v hv' => by
              rcases List.mem_append.1 hv' with hv' | hv'
              · show v.cells.size = ob.e; rw [he]; exact hsz' v hv'
              · exact r2 v (List.mem_of_mem_drop hv')) (fun y hy => by
              rw [flat_append] at hy
              rcases List.mem_append.1 hy with hy | hy
              · exact honeu y hy
              · obtain ⟨v, hv', hyv⟩ := List.mem_flatMap.1 hy
                exact r3 y (mem_flat (List.mem_of_mem_drop hv') hyv)) (by rw [h3]; simpa only [hlenx] using q1) hkm (fun o2 h2 _ _ => by rw [hid] at h2; cases h2; exact hkm)
          have hrun : (execOp a.eval o).run P w = .ok (.value (.int .i64 (m : Int))) (w.setCells g 0 (flat (us.take m))) := by
            unfold execOp
            simp [ho, hdv2, hv, resolve, invoke, builtin, Builtin.copy_, run_underlying (elemOf_und hT), Builtin.lenOf, hmin, cellsOf_run hE, hfc, hst, goInt]
          have L2 := L.put o.dst (x := .int .i64 (m : Int)) (v := .int .i64 (m : Int)) (i64_rv (by omega))
          rw [← FSt.app_one s o.dst (.int .i64 (m : Int)) id _ (id :: rd)] at L2
          exact ⟨_, _, _, hrun, .inl ⟨_, rfl, L2⟩⟩
      · cases hp
    · cases hp

theorem istep_sound (hr : Rel E s a w η) {fid : Nat} {t : Stp} (h : istep P s.ev s.hp fid o = some t) (hs : t.side) (hf : fid ∈ t.e.ids → ¬ s.kn fid) : Done P E s a w o t.e := by
  unfold istep at h
  split at h
  · rename_i x ho
    split at h
    · cases h
    · simp only [just, Option.some.injEq] at h; subst h; exact s_move hr (.inl ho)
  · rename_i x ho
    split at h
    · cases h
    · simp only [just, Option.some.injEq] at h; subst h; exact s_move hr (.inr ho)
  · rename_i c x y ho
    split at h
    · rename_i b hc
      exact s_pick hr ho hc h hs
    · cases h
  · rename_i T ho
    obtain ⟨z, hz, h⟩ := Option.bind_eq_some_iff.1 h
    cases h
    exact s_alloc hr ho hz (hf (by simp [Eff.ids])) hs.2.2 hs.1 hs.2.1
  · rename_i T x ho
    cases h
    exact s_box hr ho (hf (by simp [Eff.ids])) hs.2.2 hs.1 hs.2.1
  · rename_i T x ho
    obtain ⟨q, hq, rfl⟩ := Option.map_eq_some_iff.1 h
    unfold ldS at hq
    split at hq
    · rename_i id n i o' hx
      split at hq
      · rename_i ob hid
        obtain ⟨v, hv, rfl⟩ := Option.map_eq_some_iff.1 hq
        rw [nth_eq] at hv
        exact s_load_ptr hr ho hx hid hv hs.1.1 hs.1.2 hs.2
      · cases hq
    · rename_i e xs i o' hx
      obtain ⟨v, hv, rfl⟩ := Option.map_eq_some_iff.1 hq
      rw [nth_eq] at hv
      exact s_load_tptr hr ho hx hv hs.1.1 hs.1.2 hs.2
    · cases hq
  · rename_i T p x ho
    obtain ⟨q, hq, rfl⟩ := Option.map_eq_some_iff.1 h
    unfold stS at hq
    split at hq
    · rename_i id n i o' hp
      split at hq
      · rename_i ob hid
        obtain ⟨v, hv, rfl⟩ := Option.map_eq_some_iff.1 hq
        rw [nth_eq] at hv
        exact s_store hr ho hp hid hv hs.1.1 hs.1.2.1 hs.1.2.2.1 hs.1.2.2.2 hs.2
      · cases hq
    · cases hq
  · rename_i x ho
    split at h
    · rename_i id n i o' hx
      cases h
      exact s_nilCheck_ptr hr ho hx
    · rename_i f l c hx
      cases h
      exact s_nilCheck_func hr ho hx
    · cases h
  · rename_i op T x y T' ho
    exact s_bin hr ho h hs
  · rename_i op T x ho
    exact s_un hr ho h
  · rename_i src dst x ho
    split at h
    · rename_i k' k kk n h1 h2 hx
      cases h
      exact s_conv hr ho h1 h2 hx
    · rename_i E' h1 h2
      exact s_str hr ho h1 h2 h hs
    · cases h
  · rename_i fn f c ho
    cases h
    exact s_makeFunc hr ho
  · rename_i T x lo hi ho
    unfold sliceS at h
    split at h
    · rename_i st hx
      split at h
      · rename_i l m hl hm
        cases h
        exact s_slice_str hr ho hs.1 hx hl hm hs.2.1 hs.2.2.1 hs.2.2.2
      · cases h
    · rename_i e xs hx
      split at h
      · rename_i E' l m hT hl hm
        cases h
        exact s_slice_of hr ho hT (by rw [← hx]; exact ev_sound hr x) hl hm hs.1 hs.2.2.1 hs.2.2.2.1 hs.2.2.2.2 (by have := hs.1; have := hs.2.1; simp only at *; omega)
      · cases h
    · rename_i hx
      split at h
      · rename_i E' l m hT hl hm
        cases h
        exact s_slice_nil hr ho hT hx hl hm hs.2.1 hs.2.2 hs.1
      · cases h
    · rename_i id n i o' hx
      split at h
      · rename_i ob hid
        split at h
        · rename_i na E' hT
          split at h
          · rename_i l m hl hm
            cases h
            exact s_window hr ho hT hx hid hl hm hs.1 hs.2.1 hs.2.2.1 hs.2.2.2.1 hs.2.2.2.2.1 hs.2.2.2.2.2.1 hs.2.2.2.2.2.2
          · cases h
        · cases h
      · cases h
    · rename_i id n hx
      split at h
      · rename_i ob hid
        split at h
        · rename_i E' l m hT hl hm
          cases h
          exact s_slice_of hr ho hT (RV_ro hr (by rw [← hx]; exact ev_sound hr x) hid hs.1 hs.2.1) hl hm hs.2.2.1 hs.2.2.2.2.1 hs.2.2.2.2.2.1 hs.2.2.2.2.2.2 (by have := hs.2.2.1; have := hs.2.2.2.1; simp only at *; omega)
        · cases h
      · cases h
    · cases h
  · rename_i T x f ho
    split at h
    · rename_i off ft id n i o' hfl hx
      cases h
      exact s_fieldAddr_ptr hr ho hfl hs hx
    · rename_i off ft e xs i o' hfl hx
      cases h
      exact s_fieldAddr_tptr hr ho hfl hs hx
    · cases h
  · rename_i T x f ho
    split at h
    · rename_i off ft hfl
      split at h
      · rename_i cs hx
        obtain ⟨v, hv, rfl⟩ := Option.map_eq_some_iff.1 h
        exact s_field hr ho hfl hx hv hs
      · cases h
    · cases h
  · rename_i T ps ho
    exact s_build hr ho h
  · rename_i T len ps ho
    refine s_bsl hr ho h hs ?_
    unfold bslS at h
    split at h
    · cases h
    · split at h
      · cases h
      · obtain ⟨xs, _, rfl⟩ := Option.map_eq_some_iff.1 h
        exact hf (by simp [Eff.ids])
  · rename_i T l c ho
    refine s_make hr ho h hs ?_
    unfold makeS at h
    split at h
    · cases h
    · split at h
      · cases h
        exact hf (by simp [Eff.ids])
      · cases h
  · rename_i T ho
    obtain ⟨⟨bk, K, E'⟩, hT, rfl⟩ := Option.map_eq_some_iff.1 h
    exact s_makeMap hr ho hT (hf (by simp [Eff.ids]))
  · rename_i T x i ho
    unfold lookS at h
    split at h
    · rename_i id hx
      split at h
      · rename_i ob hid
        split at h
        · rename_i bk K E' hT
          obtain ⟨z, hz, h⟩ := Option.bind_eq_some_iff.1 h
          obtain ⟨v, hv, rfl⟩ := Option.map_eq_some_iff.1 h
          exact s_lookup hr ho hx hid hT hz hv hs
        · cases h
      · cases h
    · cases h
  · rename_i T x i y ho
    unfold mupdS at h
    split at h
    · rename_i id hx
      split at h
      · rename_i ob hid
        split at h
        · rename_i bk K E' hT
          split at h
          · cases h
          · obtain ⟨ys, hv, rfl⟩ := Option.map_eq_some_iff.1 h
            exact s_mapUpdate hr ho hx hid hT hv hs.1 hs.2
        · cases h
      · cases h
    · cases h
  · rename_i T x i ho
    unfold idxS at h
    split at h
    · rename_i k j hi
      split at h
      · rename_i E' hT
        split at h
        · rename_i e xs hx
          cases h
          exact s_index_sl hr ho hi hT hx hs.1 hs.2.1 hs.2.2.1 hs.2.2.2
        · rename_i id n hx
          split at h
          · rename_i ob hid
            cases h
            exact s_index_obj hr ho hi hT hx hid hs.1 hs.2.2.1 hs.2.2.2.1 hs.2.2.2.2
          · cases h
        · cases h
      · split at h
        · rename_i n E' hT
          split at h
          · rename_i e xs i' o' hx
            cases h
            exact s_index_arr_tptr hr ho hi hT hx hs.1 hs.2.1 hs.2.2
          · rename_i id m i' o' hx
            split at h
            · rename_i ob hid
              cases h
              exact s_index_arr_ptr hr ho hi hT hx hid hs.1 hs.2.1 hs.2.2.1 hs.2.2.2
            · cases h
          · cases h
        · cases h
    · cases h
  · rename_i x i ho
    split at h
    · rename_i vs hx
      obtain ⟨y, hy, h⟩ := Option.bind_eq_some_iff.1 h
      cases h
      exact s_extract hr ho hx hy
    · cases h
  · rename_i T x i ho
    split at h
    · rename_i st k n hx hi
      cases h
      exact s_index_str hr ho hs.1 hx hi hs.2.1 hs.2.2
    · cases h
  · rename_i b args tys ho
    split at h
    · rename_i x T hargs htys
      have ha : ∃ xo, args = #[xo] ∧ s.ev xo = x := by
        cases args with | mk l =>
        match l, hargs with
        | [xo], hargs => simp at hargs; exact ⟨xo, rfl, hargs⟩
      obtain ⟨xo, rfl, hxo⟩ := ha
      have ht : tys = #[T] := by cases tys with | mk l => simp at htys; simp [htys]
      subst ht
      obtain ⟨q, hq, rfl⟩ := Option.map_eq_some_iff.1 h
      rw [← hxo] at hq
      simp only at hs
      refine s_len (q := q) hr ⟨_, ho, rfl⟩ hq hs.1 (fun b hb => ?_) (fun hne hne2 => ?_) (fun i hi => ?_)
      · have h2 := hs.2
        rw [← hxo, hb] at h2
        exact h2
      · have h2 := hs.2
        rw [← hxo] at h2
        split at h2
        · rename_i b hb; exact absurd hb (hne b)
        · rename_i i hi; exact absurd hi (hne2 i)
        · obtain ⟨e, he⟩ := Option.isSome_iff_exists.1 h2
          exact ⟨e, elemOf_und he⟩
      · have h2 := hs.2
        rw [← hxo, hi] at h2
        obtain ⟨⟨bk, K, E'⟩, hT⟩ := Option.isSome_iff_exists.1 h2
        exact ⟨K, E', (mapOf_spec hT).1⟩
    · rename_i v1 v2 T T' hargs htys
      split at h
      · rename_i hTT
        subst hTT
        have ha : ∃ x1 x2, args = #[x1, x2] ∧ s.ev x1 = v1 ∧ s.ev x2 = v2 := by
          cases args with | mk l =>
          match l, hargs with
          | [x1, x2], hargs => simp at hargs; exact ⟨x1, x2, rfl, hargs⟩
        obtain ⟨x1, x2, rfl, h1, h2⟩ := ha
        have ht : tys = #[T, T] := by cases tys with | mk l => simp at htys; simp [htys]
        subst ht
        unfold appS at h
        split at h
        · cases h
        · rename_i E' hT
          split at h
          · rename_i z ys rd p hz hsrc
            have hxs := fun hp => src_of (x := s.ev x2) (by rw [h2]; exact hsrc) hp
            split at h
            · cases h
              simp only at hs
              exact (s_append hr (fid := fid) ho hT ⟨z, hz, hs.2.2.1, hs.2.2.2.1⟩ hs.2.1 (hxs hs.1)).1 h1 (hf (by simp [Eff.ids])) hs.2.2.2.2.1 hs.2.2.2.2.2
            · rename_i id n
              split at h
              · rename_i ob hid
                cases h
                simp only at hs
                exact (s_append hr (fid := fid) ho hT ⟨z, hz, hs.2.2.1, hs.2.2.2.1⟩ hs.2.1 (hxs hs.1)).2 id n ob h1 hid hs.2.2.2.2.1 hs.2.2.2.2.2.1 hs.2.2.2.2.2.2.1 hs.2.2.2.2.2.2.2.1 hs.2.2.2.2.2.2.2.2.1 hs.2.2.2.2.2.2.2.2.2
              · cases h
            · cases h
          · cases h
      · cases h
    · rename_i v1 v2 T T' hargs htys
      split at h
      · rename_i hTT
        subst hTT
        have ha : ∃ x1 x2, args = #[x1, x2] ∧ s.ev x1 = v1 ∧ s.ev x2 = v2 := by
          cases args with | mk l =>
          match l, hargs with
          | [x1, x2], hargs => simp at hargs; exact ⟨x1, x2, rfl, hargs⟩
        obtain ⟨x1, x2, rfl, rfl, rfl⟩ := ha
        have ht : tys = #[T, T] := by cases tys with | mk l => simp at htys; simp [htys]
        subst ht
        exact s_copy hr ho h hs
      · cases h
    · rename_i xs _ 
      obtain ⟨y, hy, h⟩ := Option.bind_eq_some_iff.1 h
      cases h
      obtain ⟨v, hv, hyv⟩ := minmax_run (P := P) (q := tys) w o.type hy (evs_sound hr args.toList)
      refine Done.val hr hyv ?_
      have : (List.map a.eval args.toList).toArray = args.map a.eval := by cases args; simp
      rw [this] at hv
      simp only [if_true] at hv
      unfold execOp
      simp [ho, resolve, invoke, builtin, hv]
    · rename_i xs _
      obtain ⟨y, hy, h⟩ := Option.bind_eq_some_iff.1 h
      cases h
      obtain ⟨v, hv, hyv⟩ := minmax_run (P := P) (q := tys) w o.type hy (evs_sound hr args.toList)
      refine Done.val hr hyv ?_
      have : (List.map a.eval args.toList).toArray = args.map a.eval := by cases args; simp
      rw [this] at hv
      simp only [Bool.false_eq_true, if_false] at hv
      unfold execOp
      simp [ho, resolve, invoke, builtin, hv]
    · cases h
  · cases h
end
end Go.AM
