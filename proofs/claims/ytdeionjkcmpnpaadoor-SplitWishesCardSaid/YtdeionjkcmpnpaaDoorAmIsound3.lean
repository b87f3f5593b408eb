/- Each operation's step against the model: stores, addresses, slices, append. -/
import Derived.Test.YtdeionjkcmpnpaaDoorAmIsound2
set_option linter.unusedSimpArgs false
set_option linter.unusedVariables false
namespace Go.AM
open Go.RowKit

section
variable {P : Program} {E : Entry} {s : FSt} {a : Act} {w : World} {η : Nat → Value} {o : Oper}

theorem mem_flat {us : List Value} {u x : Value} (hu : u ∈ us) (hx : x ∈ u.cells.toList) : x ∈ flat us := List.mem_flatMap.2 ⟨u, hu, hx⟩

theorem row_there {w : World} {T : TypeId} {e n b : Nat} {v : Value} {xs : List Value} (h : w.ownsRow 0 T e v n xs) (hb : blk v = some b) (i o k : Nat) (hi : i < n) (hk : o + k ≤ e) : w.there b (i * e + o) k := by
  intro j hj
  have hlen := h.1
  have h1 : i * e + o + j < xs.length := by
    rw [hlen]
    have : (i + 1) * e ≤ n * e := Nat.mul_le_mul_right _ hi
    rw [Nat.add_mul] at this
    omega
  have h2 := row_range h hb (i * e + o + j) _ (List.getElem?_eq_getElem h1)
  rw [Nat.zero_add] at h2
  refine ⟨by rw [h2]; rfl, ?_⟩
  rcases h.2 with ⟨rfl, _⟩ | ⟨g, cap, cur, rfl, _, hg, _⟩
  · simp [blk] at hb
  · simp [blk] at hb; subst hb
    exact frozen_of_row w g _ cur T hg

/-- The row behind a store of some cells. -/
theorem row_stored {T : TypeId} {e n g cap : Nat} : ∀ (vs : List Value) (k : Nat) (w : World) (xs : List Value), w.ownsRow 0 T e (.slice (some ⟨g, 0, none⟩) n cap) n xs → k + vs.length ≤ xs.length →
    (w.setCells g k vs).ownsRow 0 T e (.slice (some ⟨g, 0, none⟩) n cap) n (xs.take k ++ vs ++ xs.drop (k + vs.length)) ∧ w.grownBy (w.setCells g k vs) (some g)
  | [], k, w, xs, h, hk => by
    simp only [World.setCells, List.length_nil, Nat.add_zero, List.append_nil, List.take_append_drop]
    exact ⟨h, rfl, rfl, rfl, Nat.le_refl _, fun _ _ _ => rfl⟩
  | v :: vs, k, w, xs, h, hk => by
    simp only [List.length_cons] at hk
    obtain ⟨h1, g1⟩ := h.stored k v
    have hset : (xs.set k v).length = xs.length := by simp
    obtain ⟨h2, g2⟩ := row_stored (T := T) (e := e) (n := n) (g := g) (cap := cap) vs (k + 1) _ _ h1 (by omega)
    simp only [World.setCells]
    refine ⟨?_, g2.os.trans g1.os, g2.tape.trans g1.tape, g2.output.trans g1.output, Nat.le_trans g1.size g2.size, fun b hb hne => ?_⟩
    · have : (xs.set k v).take (k + 1) ++ vs ++ (xs.set k v).drop (k + 1 + vs.length) = xs.take k ++ (v :: vs) ++ xs.drop (k + (v :: vs).length) := by
        have t : (xs.set k v).take (k + 1) = xs.take k ++ [v] := by
          rw [List.take_set]
          rw [List.take_succ_eq_append_getElem (show k < xs.length by omega)]
          rw [List.set_append_right _ _ (by simp; omega)]
          simp [show min k xs.length = k by omega]
        have d : (xs.set k v).drop (k + 1 + vs.length) = xs.drop (k + (vs.length + 1)) := by
          rw [List.drop_set_of_lt (by omega), show k + 1 + vs.length = k + (vs.length + 1) by omega]
        rw [t, d]; simp
      rw [this] at h2; exact h2
    · rw [g2.block b (Nat.lt_of_lt_of_le hb g1.size) hne, g1.block b hb hne]

theorem s_store (hr : Rel E s a w η) {T : TypeId} {p x : Operand} (ho : o.op = .store T p x) {id n i o' : Nat} {ob : Obj} {x' : V} {rd : List Nat} (hp : s.ev p = .ptr id n i o') (hid : s.hp id = some ob)
    (hx' : setPart (ob.xs.getD i .bot) o' (s.ev x) = some x') (hn : n = ob.xs.length) (hi : i < ob.xs.length) (hsz : sizeV (s.ev x) = P.cellsOf T) (hk : ob.k ≠ .ro) (hc : 0 < P.cellsOf T) :
    Done P E s a w o ⟨.tup [], [(id, { ob with xs := ob.xs.set i x' })], rd⟩ := by
  obtain ⟨hkm, b, hb, hv⟩ := ptr_addr hr hp hid hn
  obtain ⟨hpos, hkn, hlen, us, r1, r2, r3, r4⟩ := laid_row hr hid hkm
  have hxi : ob.xs[i]? = some (ob.xs.getD i .bot) := by simp [hi]
  obtain ⟨u, hu, hxu⟩ := RVl_get r1 i _ hxi
  have humem := List.mem_of_getElem? hu
  obtain ⟨hscl, hoe, u', hu', hcells, hone⟩ := setPart_sound hxu (ev_sound hr x) hx' (r2 u humem) (fun y hy => r3 y (mem_flat humem hy))
  have hvs := RV_size (ev_sound hr x) hscl
  generalize hval : a.eval x = val at *
  -- the row is a real one
  rcases r4.2 with ⟨h0, h1⟩ | ⟨g, cap, cur, hη, hrest⟩
  · omega
  · have hbg : b = g := by rw [hη] at hb; simp [blk] at hb; exact hb.symm
    subst hbg
    have r4' := r4
    rw [hη] at r4'
    have hthere := row_there r4 hb i o' val.cells.size hi hoe
    have hinfo : (P.info? T).map (·.size) = some val.cells.size := by rw [info_of_cells hc, hvs, hsz]
    have hrun : (execOp a.eval o).run P w = .ok .skip (w.setCells b (i * ob.e + o') val.cells.toList) := by
      have := run_storeCells_cells (P := P) b (i * ob.e + o') val.cells.toList 0 w (fun j hj => by simpa using (hthere j (by simpa using hj)).1) (fun j hj => by simpa using (hthere j (by simpa using hj)).2) hone
      simp only [Nat.add_zero] at this
      cases hq : P.info? T with
      | none => simp [hq] at hinfo
      | some inf =>
        have hs : val.cells.size = inf.size := by simp [hq] at hinfo; omega
        unfold execOp
        simp [ho, hv, hval, Instr.storeAt, Instr.sureAddr, storeVar, sizeOf, typeInfo, hq, hs, this]
    have hulen : us.length = ob.xs.length := RVl_length r1
    have hie : (i + 1) * ob.e ≤ ob.xs.length * ob.e := Nat.mul_le_mul_right _ hi
    rw [Nat.add_mul] at hie
    have hfl : (flat us).length = ob.xs.length * ob.e := by rw [flat_length r2, hulen]
    obtain ⟨q1, q2⟩ := row_stored val.cells.toList (i * ob.e + o') w (flat us) r4' (by simp; omega)
    have huc : u.cells.size = ob.e := r2 u humem
    have hu'c : u'.cells.size = ob.e := by
      have := congrArg List.length hcells
      simp only [Array.length_toList, List.length_append, List.length_take, List.length_drop] at this
      omega
    have hflat : (flat us).take (i * ob.e + o') ++ val.cells.toList ++ (flat us).drop (i * ob.e + o' + val.cells.toList.length) = flat (us.set i u') := by
      rw [flat_set r2 i u u' hu hu'c, hcells]
      have hsplit : flat us = (flat us).take (i * ob.e) ++ u.cells.toList ++ (flat us).drop (i * ob.e + ob.e) := by
        have := flat_set r2 i u u hu huc
        have hself : us.set i u = us := by
          apply List.ext_getElem?
          intro j
          rw [List.getElem?_set]
          split
          · rename_i hij; subst hij
            have := (List.getElem?_eq_some_iff.1 hu).1
            simp [this, ← hu]
          · rfl
        rw [hself] at this
        exact this
      have e1 : (flat us).take (i * ob.e + o') = (flat us).take (i * ob.e) ++ u.cells.toList.take o' := by
        conv => lhs; rw [hsplit]
        rw [List.append_assoc, List.take_append, List.take_of_length_le (by simp; omega)]
        simp only [List.length_take, hfl]
        rw [show min (i * ob.e) (ob.xs.length * ob.e) = i * ob.e by omega, Nat.add_sub_cancel_left]
        rw [List.take_append_of_le_length (by simp; omega)]
      have e2 : (flat us).drop (i * ob.e + o' + val.cells.toList.length) = u.cells.toList.drop (o' + val.cells.size) ++ (flat us).drop (i * ob.e + ob.e) := by
        conv => lhs; rw [hsplit]
        rw [List.append_assoc, List.drop_append, List.drop_of_length_le (by simp; omega)]
        simp only [List.length_take, hfl, List.nil_append, Array.length_toList]
        rw [show min (i * ob.e) (ob.xs.length * ob.e) = i * ob.e by omega, show i * ob.e + o' + val.cells.size - i * ob.e = o' + val.cells.size by omega]
        rw [List.drop_append_of_le_length (by simp; omega)]
      rw [e1, e2]; simp only [List.append_assoc]
    rw [hflat] at q1
    have L := hr.lay (w' := w.setCells b (i * ob.e + o') val.cells.toList) id { ob with xs := ob.xs.set i x' } (η id) (blk (η id)) (by rw [hb]; exact q2)
      (.inr ⟨ob, hid, hk, rfl, rfl, by simp, fun _ => rfl⟩) hk hpos (by simpa using hlen) (fun b' hb' => .inr hb') (fun hbx => by
        have := (hr.laid.obj id ob hid).box hbx
        exact this) (us.set i u') (RVl_set r1 hu') (fun v hv => by
        rcases List.mem_or_eq_of_mem_set hv with hv | hv
        · exact r2 v hv
        · rw [hv]; exact hu'c) (fun y hy => by
        obtain ⟨v, hv, hyv⟩ := List.mem_flatMap.1 hy
        rcases List.mem_or_eq_of_mem_set hv with hv | hv
        · exact r3 y (mem_flat hv hyv)
        · rw [hv, hcells] at hyv
          simp only [List.mem_append] at hyv
          rcases hyv with (hyv | hyv) | hyv
          · exact r3 y (mem_flat humem (List.mem_of_mem_take hyv))
          · exact hone y hyv
          · exact r3 y (mem_flat humem (List.mem_of_mem_drop hyv))) (by simpa [hη] using q1) hkm (fun o2 h2 _ _ => by rw [hid] at h2; cases h2; exact hkm)
    have := L.put o.dst (x := .tup []) (v := undef) (by simp only [RV]; exact ⟨#[], rfl, by simp [RVl]⟩)
    rw [← FSt.app_one s o.dst (.tup []) id _ rd] at this
    exact ⟨_, _, _, hrun, .inr ⟨rfl, this⟩⟩

theorem s_nilCheck_ptr (hr : Rel E s a w η) {x : Operand} (ho : o.op = .nilCheck x) {id n i o' : Nat} (hx : s.ev x = .ptr id n i o') :
    Done P E s a w o ⟨.ptr id n i o', [], []⟩ := by
  have h := ev_sound hr x
  rw [hx] at h
  have h' := h
  simp only [RV] at h'
  obtain ⟨⟨b, k, hv⟩, _⟩ := h'
  refine Done.val hr h ?_
  unfold execOp
  simp [ho, hv]

theorem s_nilCheck_func (hr : Rel E s a w η) {x : Operand} (ho : o.op = .nilCheck x) {f : FuncId} {l c : List V} (hx : s.ev x = .func (.func f) l c) : Done P E s a w o ⟨.func (.func f) l c, [], []⟩ := by
  have h := ev_sound hr x
  rw [hx] at h
  have h' := h
  simp only [RV] at h
  obtain ⟨f1, c1, hv, _⟩ := h
  refine Done.val hr h' ?_
  unfold execOp
  simp [ho, hv]

theorem fld_run {T f off ft : Nat} (hf : fldOf P T f = some (off, ft)) (hc : 0 < P.cellsOf ft) (b k : Nat) (w : World) :
    (Instr.fieldAt T (.pointer (some ⟨b, k, none⟩)) f).run P w = .ok (.pointer (some ⟨b, k + off, none⟩)) w := by
  unfold fldOf at hf
  cases hu : P.underlying T with
  | none => simp [hu] at hf
  | some d =>
    cases d <;> simp only [hu, reduceCtorEq] at hf
    rename_i fs
    cases hff : fs[f]? with
    | none => simp [hff] at hf
    | some fd =>
      simp only [hff, Option.map_some, Option.some.injEq, Prod.mk.injEq] at hf
      obtain ⟨rfl, rfl⟩ := hf
      have : ¬ P.cellsOf fd.type = 0 := by omega
      simp [Instr.fieldAt, run_underlying hu, hff, Instr.sureAddr, fieldPlace, cellsOf_run hc, this, Addr.add_mid]

theorem s_fieldAddr_ptr (hr : Rel E s a w η) {x : Operand} {T f off ft : Nat} (ho : o.op = .fieldAddr T x f) (hf : fldOf P T f = some (off, ft)) (hc : 0 < P.cellsOf ft) {id n i o' : Nat}
    (hx : s.ev x = .ptr id n i o') : Done P E s a w o ⟨.ptr id n i (o' + off), [], []⟩ := by
  have h := ev_sound hr x
  rw [hx] at h
  simp only [RV] at h
  obtain ⟨⟨b, k, hv⟩, hd, hkn, hm⟩ := h
  refine Done.val hr (v := .pointer (some ⟨b, k + off, none⟩)) ?_ ?_
  · simp only [RV]
    refine ⟨⟨_, _, rfl⟩, hd, hkn, ?_⟩
    generalize (s.ctx E w η).hp id = x at hm ⊢
    cases x with
    | none => trivial
    | some ob =>
      simp only at hm ⊢
      refine ⟨hm.1, hm.2.1, fun hn => ?_⟩
      obtain ⟨b', hb, hv'⟩ := hm.2.2 hn
      rw [hv] at hv'
      simp only [Value.pointer.injEq, Option.some.injEq, Addr.mk.injEq, and_true] at hv'
      obtain ⟨rfl, rfl⟩ := hv'
      exact ⟨b, hb, by rw [Nat.add_assoc]⟩
  · unfold execOp
    simp only [ho, hv, Sem.run_bind, fld_run hf hc, Result.andThen_ok, Sem.run_pure]

theorem s_fieldAddr_tptr (hr : Rel E s a w η) {x : Operand} {T f off ft : Nat} (ho : o.op = .fieldAddr T x f) (hf : fldOf P T f = some (off, ft)) (hc : 0 < P.cellsOf ft) {e i o' : Nat} {xs : List V}
    (hx : s.ev x = .tptr e xs i o') : Done P E s a w o ⟨.tptr e xs i (o' + off), [], []⟩ := by
  have h := ev_sound hr x
  rw [hx] at h
  simp only [RV] at h
  obtain ⟨b, k, us, r1, r2, r3, r4, r5, hv⟩ := h
  refine Done.val hr (v := .pointer (some ⟨b, k + (i * e + (o' + off)), none⟩)) ?_ ?_
  · simp only [RV]
    exact ⟨b, k, us, r1, r2, r3, r4, r5, rfl⟩
  · unfold execOp
    simp only [ho, hv, Sem.run_bind, fld_run hf hc, Result.andThen_ok, Sem.run_pure, Nat.add_assoc]

theorem elemOf_und {T e : TypeId} (h : elemOfT P T = some e) : P.underlying T = some (.slice e) := by
  unfold elemOfT at h
  split at h
  · rename_i e' hu; cases h; exact hu
  · cases h

theorem s_index_sl (hr : Rel E s a w η) {T T' : TypeId} {x i : Operand} (ho : o.op = .indexAddr T x i) {e : Nat} {k : IntKind} {j : Int} {xs : List V} (hi : s.ev i = .int k j) (hT : elemOfT P T = some T') (hx : s.ev x = .sl e xs)
    (he : e = P.cellsOf T') (h0 : 0 ≤ j) (hj : j < xs.length) (hc : 0 < e) : Done P E s a w o ⟨.tptr e xs j.toNat 0, [], []⟩ := by
  have h := ev_sound hr x
  rw [hx] at h
  simp only [RV] at h
  obtain ⟨ad, cap, us, hv, _, hl, r1, r2, _, r3⟩ := h
  have h2 := ev_sound hr i
  rw [hi] at h2
  simp only [RV] at h2
  rcases r3 with r3 | ⟨b, off, rfl, r3, r4, r5⟩
  · subst r3; simp at hj; omega
  · refine Done.val hr (v := .pointer (some ⟨b, off + (j.toNat * e + 0), none⟩)) ?_ ?_
    · simp only [RV]
      exact ⟨b, off, us, r1, r2, r3, r4, r5, rfl⟩
    · unfold execOp
      have hcc : 0 < P.cellsOf T' := by omega
      simp [ho, hv, h2.1, Instr.indexAt, asIntOf, run_underlying (elemOf_und hT), h0, hj, cellsOf_run hcc, Addr.add_mid, he]

theorem s_index_obj (hr : Rel E s a w η) {T T' : TypeId} {x i : Operand} (ho : o.op = .indexAddr T x i) {id n : Nat} {ob : Obj} {k : IntKind} {j : Int} {rd : List Nat} (hi : s.ev i = .int k j) (hT : elemOfT P T = some T') (hx : s.ev x = .obj id n)
    (hid : s.hp id = some ob) (hn : n = ob.xs.length) (he : ob.e = P.cellsOf T') (h0 : 0 ≤ j) (hj : j < n) : Done P E s a w o ⟨.ptr id n j.toNat 0, [], rd⟩ := by
  have h := ev_sound hr x
  rw [hx] at h
  simp only [RV] at h
  obtain ⟨⟨ad, m, cap, hv⟩, _, hkn, h⟩ := h
  simp only [FSt.ctx, hid] at h
  have hη := h.2.2 hn
  have h2 := ev_sound hr i
  rw [hi] at h2
  simp only [RV] at h2
  obtain ⟨hpos, _, hlen, us, r1, r2, _, r4⟩ := laid_row hr hid h.1
  rcases r4.2 with ⟨h3, h4⟩ | ⟨g, cp, cur, h3, _⟩
  · omega
  · rw [hη, h3] at hv
    cases hv
    subst hn
    refine Done.val hr (v := .pointer (some ⟨g, j.toNat * ob.e + 0, none⟩)) ?_ ?_
    · simp only [RV]
      refine ⟨⟨_, _, rfl⟩, rfl, hkn, ?_⟩
      simp only [FSt.ctx, hid]
      exact ⟨h.1, Nat.le_refl _, fun _ => ⟨g, by rw [h3]; rfl, rfl⟩⟩
    · unfold execOp
      have hcc : 0 < P.cellsOf T' := by omega
      rw [h3] at hη
      simp [ho, hη, h2.1, Instr.indexAt, asIntOf, run_underlying (elemOf_und hT), h0, hj, cellsOf_run hcc, Addr.add_mid, he]

theorem arrOf_und {T n e : Nat} (h : arrOfT P T = some (n, e)) : P.underlying T = some (.array n e) := by
  unfold arrOfT at h
  split at h
  · rename_i n' e' hu; cases h; exact hu
  · cases h

theorem s_index_arr_tptr (hr : Rel E s a w η) {T n T' : Nat} {x i : Operand} (ho : o.op = .indexAddr T x i) {e : Nat} {k : IntKind} {j : Int} {xs : List V} {i' o' : Nat} (hi : s.ev i = .int k j) (hT : arrOfT P T = some (n, T')) (hx : s.ev x = .tptr e xs i' o')
    (hc : 0 < P.cellsOf T') (h0 : 0 ≤ j) (hj : j < n) : Done P E s a w o ⟨.tptr e xs i' (o' + j.toNat * P.cellsOf T'), [], []⟩ := by
  have h := ev_sound hr x
  rw [hx] at h
  simp only [RV] at h
  obtain ⟨b, kk, us, r1, r2, r3, r4, r5, hv⟩ := h
  have h2 := ev_sound hr i
  rw [hi] at h2
  simp only [RV] at h2
  refine Done.val hr (v := .pointer (some ⟨b, kk + (i' * e + (o' + j.toNat * P.cellsOf T')), none⟩)) ?_ ?_
  · simp only [RV]
    exact ⟨b, kk, us, r1, r2, r3, r4, r5, rfl⟩
  · unfold execOp
    simp [ho, hv, h2.1, Instr.indexAt, Instr.sureAddr, asIntOf, run_underlying (arrOf_und hT), h0, hj, cellsOf_run hc, Addr.add_mid, Nat.add_assoc]

theorem s_index_arr_ptr (hr : Rel E s a w η) {T n T' : Nat} {x i : Operand} (ho : o.op = .indexAddr T x i) {id m i' o' : Nat} {ob : Obj} {k : IntKind} {j : Int} {rd : List Nat} (hi : s.ev i = .int k j) (hT : arrOfT P T = some (n, T')) (hx : s.ev x = .ptr id m i' o')
    (hid : s.hp id = some ob) (hn : m = ob.xs.length) (hc : 0 < P.cellsOf T') (h0 : 0 ≤ j) (hj : j < n) : Done P E s a w o ⟨.ptr id m i' (o' + j.toNat * P.cellsOf T'), [], rd⟩ := by
  obtain ⟨hkm, b, hb, hv⟩ := ptr_addr hr hx hid hn
  have hkn := (hr.laid.obj id ob hid).lt
  have h2 := ev_sound hr i
  rw [hi] at h2
  simp only [RV] at h2
  refine Done.val hr (v := .pointer (some ⟨b, i' * ob.e + (o' + j.toNat * P.cellsOf T'), none⟩)) ?_ ?_
  · simp only [RV]
    refine ⟨⟨_, _, rfl⟩, rfl, hkn, ?_⟩
    simp only [FSt.ctx, hid]
    exact ⟨hkm, by omega, fun _ => ⟨b, hb, rfl⟩⟩
  · unfold execOp
    simp [ho, hv, h2.1, Instr.indexAt, Instr.sureAddr, asIntOf, run_underlying (arrOf_und hT), h0, hj, cellsOf_run hc, Addr.add_mid, Nat.add_assoc]

/-- The bounds of a slice expression. -/
theorem bound_run (w : World) {c : Ctx} {y : Nat} {code : BoundsCode} {k : IntKind} {j : Int} {v : Value} (hv : RV c (.int k j) v) (h0 : 0 ≤ j) (h1 : j ≤ y) : (Instr.sliceBound v y code).run P w = .ok j.toNat w := by
  simp only [RV] at hv
  simp [hv.1, Instr.sliceBound, asIntOf, h0, h1]

theorem bounds_run (hr : Rel E s a w η) {lo hi : Option Operand} {len cap : Nat} {l h : Int} {b : Bool} (hl : bnd 0 (lo.map s.ev) = some l) (hh : bnd len (hi.map s.ev) = some h) (h0 : 0 ≤ l) (h1 : l ≤ h) (h2 : h ≤ len) (hc : len ≤ cap) :
    (Instr.sliceBounds b len cap (lo.map a.eval) (hi.map a.eval) none).run P w = .ok (l.toNat, h.toNat, cap) w := by
  have key : ∀ (d : Int) (x : Operand) (z : Int) (y : Nat) (code : BoundsCode), bnd d (some (s.ev x)) = some z → 0 ≤ z → z ≤ y → (Instr.sliceBound (a.eval x) y code).run P w = .ok z.toNat w := fun d x z y code hz g0 g1 => by
    have hx := ev_sound hr x
    generalize s.ev x = X at *
    cases X <;> simp only [bnd, Option.some.injEq, reduceCtorEq] at hz
    subst hz
    exact bound_run w hx g0 g1
  have hhn : (h.toNat : Int) = h := by omega
  cases hi with
  | none =>
    simp only [Option.map_none, bnd, Option.some.injEq] at hh
    subst hh
    cases lo with
    | none =>
      simp only [Option.map_none, bnd, Option.some.injEq] at hl
      subst hl
      simp [Instr.sliceBounds]
    | some x =>
      simp only [Option.map_some] at hl ⊢
      have := key 0 x l len .sliceB hl h0 h1
      simp [Instr.sliceBounds, this]
  | some y =>
    simp only [Option.map_some] at hh ⊢
    have hy := key _ y h cap (if b then .sliceAcap else .sliceAlen) hh (by omega) (by omega)
    cases lo with
    | none =>
      simp only [Option.map_none, bnd, Option.some.injEq] at hl
      subst hl
      simp [Instr.sliceBounds, hy]
    | some x =>
      simp only [Option.map_some] at hl ⊢
      have := key 0 x l h.toNat .sliceB hl h0 (by omega)
      simp [Instr.sliceBounds, hy, this]

theorem take_add {α : Type} (A B : List α) (n : Nat) : (A ++ B).take (A.length + n) = A ++ B.take n := by
  rw [List.take_append, List.take_of_length_le (by omega), Nat.add_sub_cancel_left]
theorem drop_add {α : Type} (A B : List α) (n : Nat) : (A ++ B).drop (A.length + n) = B.drop n := by
  rw [List.drop_append, List.drop_of_length_le (by omega), Nat.add_sub_cancel_left, List.nil_append]

theorem flat_take_drop {e : Nat} {us : List Value} (h : ∀ u ∈ us, u.cells.size = e) (l m : Nat) : flat ((us.take m).drop l) = ((flat us).take (m * e)).drop (l * e) := by
  have ht : ∀ (m : Nat) {us : List Value}, (∀ u ∈ us, u.cells.size = e) → flat (us.take m) = (flat us).take (m * e) := by
    intro m
    induction m with
    | zero => intro us _; simp [flat]
    | succ m ih =>
      intro us h
      cases us with
      | nil => simp [flat]
      | cons u us =>
        rw [List.take_succ_cons, flat_cons, flat_cons, ih (fun v hv => h v (by simp [hv]))]
        have hu := h u (by simp)
        rw [show (m + 1) * e = u.cells.toList.length + m * e by simp [hu, Nat.add_mul]; omega]
        rw [take_add]
  have hd : ∀ (m : Nat) {us : List Value}, (∀ u ∈ us, u.cells.size = e) → flat (us.drop m) = (flat us).drop (m * e) := by
    intro m
    induction m with
    | zero => intro us _; simp [flat]
    | succ m ih =>
      intro us h
      cases us with
      | nil => simp [flat]
      | cons u us =>
        rw [List.drop_succ_cons, flat_cons, ih (fun v hv => h v (by simp [hv]))]
        have hu := h u (by simp)
        rw [show (m + 1) * e = u.cells.toList.length + m * e by simp [hu, Nat.add_mul]; omega]
        rw [drop_add]
  rw [hd l (fun u hu => h u (List.mem_of_mem_take hu)), ht m h]

/-- A piece of what a slice shows. -/
theorem RV_piece {c : Ctx} {e cap b off : Nat} {xs : List V} {us : List Value} (r1 : RVl { c with data := true } xs us) (r2 : ∀ u ∈ us, u.cells.size = e) (hone : ∀ x ∈ flat us, x.oneCell' = true) (hO : ¬ c.O b) (hb : b < c.w.heap.size) (hr : c.w.rangeAt b off (flat us)) (hlen : xs.length ≤ 140737488355328)
    (l h : Nat) (h1 : l ≤ h) (h2 : h ≤ xs.length) (hm : h ≤ cap) (hne : l < cap) :
    RV c (.sl e ((xs.take h).drop l)) (.slice (some ⟨b, off + l * e, none⟩) (h - l) (cap - l)) := by
  have hul := RVl_length r1
  simp only [RV]
  refine ⟨some ⟨b, off + l * e, none⟩, cap - l, (us.take h).drop l, ?_, ?_, ?_, RVl_drop _ (RVl_take _ r1), fun u hu => r2 u (List.mem_of_mem_take (List.mem_of_mem_drop hu)), fun x hx => hone x (by rw [flat_take_drop r2] at hx; exact List.mem_of_mem_take (List.mem_of_mem_drop hx)), .inr ⟨b, off + l * e, rfl, hO, hb, ?_⟩⟩
  · congr 1
    simp; omega
  · simp; omega
  · simp; omega
  · intro j v hv
    rw [flat_take_drop r2, List.getElem?_drop, List.getElem?_take] at hv
    split at hv
    · have := hr _ _ hv
      rwa [show off + (l * e + j) = off + l * e + j by omega] at this
    · cases hv

theorem sliceAt_slice {T e : TypeId} (hT : P.underlying T = some (.slice e)) (x : Value) (lo hi mx : Option Value) (w : World) : (Instr.sliceAt T x lo hi mx).run P w = (Instr.slice T x lo hi mx).run P w := by
  simp [Instr.sliceAt, run_underlying hT]

theorem s_slice_of (hr : Rel E s a w η) {T T' : TypeId} {x : Operand} {lo hi : Option Operand} (ho : o.op = .slice T x lo hi none) {e : Nat} {l h : Int} {xs : List V} (hT : elemOfT P T = some T') (hxx : RV (s.ctx E w η) (.sl e xs) (a.eval x))
    (hl : bnd 0 (lo.map s.ev) = some l) (hh : bnd xs.length (hi.map s.ev) = some h) (he : e = P.cellsOf T') (h0 : 0 ≤ l) (h1 : l ≤ h) (h2 : h ≤ xs.length) (hc : 0 < P.cellsOf T') {rd : List Nat} :
    Done P E s a w o ⟨.sl e ((xs.take h.toNat).drop l.toNat), [], rd⟩ := by
  simp only [RV] at hxx
  obtain ⟨ad, cap, us, hv, hcap1, hlen, r1, r2, hone, r3⟩ := hxx
  have hb := bounds_run (P := P) (b := true) (cap := cap) hr hl hh h0 h1 h2 hcap1
  have hrun : (execOp a.eval o).run P w = .ok (.value (.slice (if cap = l.toNat then ad else ad.map (·.add (l.toNat * P.cellsOf T'))) (h.toNat - l.toNat) (cap - l.toNat))) w := by
    unfold execOp
    simp only [ho, hv, Option.map_none, Sem.run_bind, sliceAt_slice (elemOf_und hT)]
    simp [Instr.slice, run_underlying (elemOf_und hT), hb, cellsOf_run hc]
  refine Done.val hr ?_ hrun
  by_cases hce : cap = l.toNat
  · have hxe : (xs.take h.toNat).drop l.toNat = [] := by
      apply List.drop_of_length_le
      simp; omega
    rw [if_pos hce, hxe]
    simp only [RV]
    exact ⟨ad, cap - l.toNat, [], by congr 1; simp; omega, by simp, by simp, by simp [RVl], by simp, by simp [flat], .inl trivial⟩
  · rw [if_neg hce]
    rcases r3 with r3 | ⟨b, off, rfl, r3, r4, r5⟩
    · subst r3
      simp only [List.take_nil, List.drop_nil, RV]
      have hz : h.toNat - l.toNat = 0 := by simp at h2; omega
      exact ⟨_, _, [], by rw [hz]; rfl, by simp, by simp, by simp [RVl], by simp, by simp [flat], .inl trivial⟩
    · have := RV_piece (c := s.ctx E w η) (cap := cap) r1 r2 hone r3 r4 r5 hlen l.toNat h.toNat (by omega) (by omega) (by omega) (by omega)
      simp only [Option.map_some, Addr.add_mid, ← he]
      exact this

end
end Go.AM
