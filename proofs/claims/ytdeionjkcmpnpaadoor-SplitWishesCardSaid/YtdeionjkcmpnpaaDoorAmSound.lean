/- Loads and stores against the model. -/
import Derived.Test.YtdeionjkcmpnpaaDoorAmStep
set_option linter.unusedSimpArgs false
set_option linter.unusedVariables false
namespace Go.AM
open Go.RowKit

theorem RV_sc {c : Ctx} {x : V} {v : Value} (h : RV c x v) (hx : x.sc = true) : v.oneCell' = true := by
  cases x <;> simp only [V.sc, Bool.false_eq_true] at hx <;> simp only [RV] at h
  case bool => subst h; rfl
  case int => rw [h.1]; rfl
  case str => subst h; rfl
  case nilS => subst h; rfl
  case sl => obtain ⟨a, cap, us, rfl, _⟩ := h; rfl
  case nl => obtain ⟨cap, rfl⟩ := h; rfl
  case sn => obtain ⟨⟨a, n, m, rfl⟩, _⟩ := h; rfl
  case win => obtain ⟨⟨a, m, cap, rfl⟩, _⟩ := h; rfl
  case nilP => subst h; rfl
  case func => obtain ⟨f, c1, rfl, _⟩ := h; rfl
  case nilF => subst h; rfl
  case tptr => obtain ⟨b, off, us, _, _, _, _, _, rfl⟩ := h; rfl
  case obj => obtain ⟨⟨a, m, cap, rfl⟩, _⟩ := h; rfl
  case mp => obtain ⟨⟨r, rfl⟩, _⟩ := h; rfl
  case ptr => obtain ⟨⟨b, k, rfl⟩, _⟩ := h; rfl

theorem cells_one {v : Value} (h : v.oneCell' = true) : v.cells = #[v] := by cases v <;> simp_all [Value.oneCell', Value.cells]

theorem cl_eq {x : V} {cs : List V} (h : x.cl = some cs) : x = .agg cs := by cases x <;> simp_all [V.cl]

theorem RV_cl {c : Ctx} {x : V} {cs : List V} {v : Value} (hx : x.cl = some cs) (h : RV c x v) : ∃ cv, v = .agg cv ∧ RVl c cs cv.toList ∧ ∀ u ∈ cv.toList, u.oneCell' = true := by
  rw [cl_eq hx] at h
  simpa only [RV] using h

theorem RV_size {c : Ctx} {x : V} {v : Value} (h : RV c x v) (hx : x.sc = true ∨ x.cl.isSome = true) : v.cells.size = sizeV x := by
  cases hc : x.cl with
  | some cs =>
    obtain ⟨cv, rfl, h1, _⟩ := RV_cl hc h
    simp only [Value.cells, sizeV, hc]
    have := RVl_length h1
    simpa using this
  | none =>
    simp only [sizeV, hc]
    rcases hx with hx | hx
    · rw [cells_one (RV_sc h hx)]; rfl
    · simp [hc] at hx

mutual
theorem RV_data {c : Ctx} : ∀ (x : V) (v : Value), RV { c with data := true } x v → RV { c with data := false } x v
  | .bot, v, h => by simp [RV] at h
  | .bool b, v, h => by simpa only [RV] using h
  | .int k n, v, h => by simpa only [RV] using h
  | .str s, v, h => by simpa only [RV] using h
  | .nilS, v, h => by simpa only [RV] using h
  | .sl e xs, v, h => by simpa only [RV] using h
  | .nl, v, h => by simpa only [RV] using h
  | .sn e xs, v, h => by simpa only [RV] using h
  | .win id n i o k, v, h => by simp [RV] at h
  | .obj id n, v, h => by simp [RV] at h
  | .ptr id n i o, v, h => by simp [RV] at h
  | .mp id, v, h => by simp [RV] at h
  | .tptr e xs i o, v, h => by simpa only [RV] using h
  | .nilP, v, h => by simpa only [RV] using h
  | .func fn f cs, v, h => by
    simp only [RV] at h ⊢
    obtain ⟨f1, c1, hv, h1, h2⟩ := h
    exact ⟨f1, c1, hv, RVl_data _ _ h1, RVl_data _ _ h2⟩
  | .nilF, v, h => by simpa only [RV] using h
  | .agg cs, v, h => by
    simp only [RV] at h ⊢
    obtain ⟨cv, hv, h1, h2⟩ := h
    exact ⟨cv, hv, RVl_data _ _ h1, h2⟩
  | .tup vs, v, h => by
    simp only [RV] at h ⊢
    obtain ⟨cv, hv, h1⟩ := h
    exact ⟨cv, hv, RVl_data _ _ h1⟩
  | .opt g x, v, h => by simp [RV] at h
theorem RVl_data {c : Ctx} : ∀ (xs : List V) (us : List Value), RVl { c with data := true } xs us → RVl { c with data := false } xs us
  | [], us, h => by simpa only [RVl] using h
  | x :: xs, us, h => by
    simp only [RVl] at h ⊢
    obtain ⟨u, r, hu, h1, h2⟩ := h
    exact ⟨u, r, hu, RV_data x u h1, RVl_data xs r h2⟩
end

theorem flat_cons (u : Value) (us : List Value) : flat (u :: us) = u.cells.toList ++ flat us := by simp [flat]
theorem flat_append (us vs : List Value) : flat (us ++ vs) = flat us ++ flat vs := by simp [flat]

theorem flat_ones : ∀ {us : List Value}, (∀ x ∈ us, x.oneCell' = true) → flat us = us
  | [], _ => rfl
  | u :: us, h => by
    rw [flat_cons, cells_one (h u (by simp)), flat_ones fun x hx => h x (by simp [hx])]
    rfl
theorem flat_length {e : Nat} : ∀ {us : List Value}, (∀ u ∈ us, u.cells.size = e) → (flat us).length = us.length * e
  | [], _ => by simp [flat]
  | u :: us, h => by
    rw [flat_cons, List.length_append, flat_length (fun v hv => h v (by simp [hv]))]
    have := h u (by simp)
    simp [this, Nat.add_mul, Nat.add_comm]

theorem flat_get {e : Nat} : ∀ {us : List Value}, (∀ u ∈ us, u.cells.size = e) → ∀ (i : Nat) (u : Value), us[i]? = some u → ∀ j, j < e → (flat us)[i * e + j]? = u.cells[j]?
  | [], _, i, u, h, _, _ => by simp at h
  | v :: us, h, 0, u, hu, j, hj => by
    simp at hu; subst hu
    rw [flat_cons, Nat.zero_mul, Nat.zero_add, List.getElem?_append_left (by have := h v (by simp); simp [this, hj])]
    simp
  | v :: us, h, i + 1, u, hu, j, hj => by
    have h0 := h v (by simp)
    rw [flat_cons, List.getElem?_append_right (by simp [h0, Nat.add_mul]; omega)]
    simp only [List.getElem?_cons_succ] at hu
    have := flat_get (fun x hx => h x (by simp [hx])) i u hu j hj
    rw [← this]
    congr 1
    simp [h0, Nat.add_mul]; omega

theorem flat_set {e : Nat} : ∀ {us : List Value}, (∀ u ∈ us, u.cells.size = e) → ∀ (i : Nat) (u v : Value), us[i]? = some u → v.cells.size = e →
    flat (us.set i v) = (flat us).take (i * e) ++ v.cells.toList ++ (flat us).drop (i * e + e)
  | [], _, i, u, v, h, _ => by simp at h
  | x :: us, h, 0, u, v, hu, hv => by
    have h0 := h x (by simp)
    simp only [List.set_cons_zero, flat_cons, Nat.zero_mul, List.take_zero, List.nil_append, Nat.zero_add]
    rw [List.drop_append_of_le_length (by simp [h0])]
    simp [List.drop_of_length_le, h0]
  | x :: us, h, i + 1, u, v, hu, hv => by
    have h0 := h x (by simp)
    simp only [List.getElem?_cons_succ] at hu
    have ih := flat_set (fun y hy => h y (by simp [hy])) i u v hu hv
    have hx : x.cells.toList.length = e := by simpa using h0
    have t1 : (x.cells.toList ++ flat us).take ((i + 1) * e) = x.cells.toList ++ (flat us).take (i * e) := by
      rw [show (i + 1) * e = x.cells.toList.length + i * e by rw [hx, Nat.add_mul]; omega]
      rw [List.take_append, List.take_of_length_le (by omega), Nat.add_sub_cancel_left]
    have t2 : (x.cells.toList ++ flat us).drop ((i + 1) * e + e) = (flat us).drop (i * e + e) := by
      rw [show (i + 1) * e + e = x.cells.toList.length + (i * e + e) by rw [hx, Nat.add_mul]; omega]
      rw [List.drop_append, List.drop_of_length_le (by omega), Nat.add_sub_cancel_left, List.nil_append]
    simp only [List.set_cons_succ, flat_cons, ih, t1, t2, List.append_assoc]

theorem isRow_run {P : Program} {T : TypeId} {b : Bool} (h : isRowT P T = some b) (w : World) : (isAgg T).run P w = .ok b w := by
  unfold isRowT at h
  cases hu : P.underlying T with
  | none => simp [hu] at h
  | some d =>
    simp only [hu, Option.map_some, Option.some.injEq] at h
    unfold isAgg
    rw [Sem.run_bind, run_underlying hu w]
    subst h
    cases d <;> simp

theorem cellsOf_run {P : Program} {T : TypeId} (h : 0 < P.cellsOf T) (w : World) : (sizeOf T).run P w = .ok (P.cellsOf T) w := by
  unfold Program.cellsOf at *
  cases hi : P.info? T with
  | none => simp [hi] at h
  | some i => simp [sizeOf, typeInfo, hi]

theorem info_of_cells {P : Program} {T : TypeId} (h : 0 < P.cellsOf T) : (P.info? T).map (·.size) = some (P.cellsOf T) := by
  unfold Program.cellsOf at *
  cases hi : P.info? T with
  | none => simp [hi] at h
  | some i => simp

/-- A load of the variable of type T at cell o of element i. -/
theorem load_sound {P : Program} {c : Ctx} {T : TypeId} {b off e i o : Nat} {us : List Value} {u : Value} {x y : V} (hsz : ∀ u ∈ us, u.cells.size = e) (hr : c.w.rangeAt b off (flat us))
    (hu : us[i]? = some u) (hx : RV c x u) (hp : partV P T x o = some y) (hpos : 0 < e) (hc : 0 < P.cellsOf T) :
    ∃ v, (loadVar T ⟨b, off + (i * e + o), none⟩).run P c.w = .ok v c.w ∧ RV c y v := by
  have hue : u.cells.size = e := hsz u (List.mem_of_getElem? hu)
  have cellAt : ∀ j v, u.cells[j]? = some v → c.w.cell? ⟨b, off + (i * e + j), none⟩ = some v := fun j v hv => by
    have hj : j < e := by rw [← hue]; exact (Array.getElem?_eq_some_iff.1 hv).1
    exact hr _ _ (by rw [flat_get hsz i u hu j hj]; exact hv)
  unfold partV at hp
  cases hrow : isRowT P T with
  | none => simp [hrow] at hp
  | some r =>
    have hra := isRow_run (P := P) hrow c.w
    cases hcl : x.cl with
    | none =>
      cases r with
      | true => simp [hrow, hcl] at hp
      | false =>
        simp only [hrow, hcl] at hp
        split at hp
        · rename_i ho
          subst ho
          have hy : y = x := by
            cases x <;> simp_all [V.cl]
          subst hy
          have h1 : (loadVar T ⟨b, off + (i * e + 0), none⟩).run P c.w = (load ⟨b, off + (i * e + 0), none⟩).run P c.w := by
            simp [loadVar, hra]
          rw [h1]
          by_cases hb : y = .bot
          · subst hb
            have h0 : 0 < u.cells.size := by omega
            have := cellAt 0 _ (Array.getElem?_eq_getElem h0)
            refine ⟨_, by rw [run_load, this], ?_⟩
            simp only [RV] at hx ⊢; exact hx
          · have hsc : y.sc = true := by cases y <;> simp_all [V.sc, V.cl]
            have hone := RV_sc hx hsc
            have := cellAt 0 u (by rw [cells_one hone]; rfl)
            exact ⟨u, by rw [run_load, this], hx⟩
        · cases hp
    | some cs =>
      obtain ⟨cv, rfl, h1, h2⟩ := RV_cl hcl hx
      have hl := RVl_length h1
      simp only [Value.cells] at hue cellAt
      cases r with
      | false =>
        simp only [hrow, hcl] at hp
        obtain ⟨v, hv, hy⟩ := RVl_get h1 o y hp
        have := cellAt o v (by simpa using hv)
        exact ⟨v, by simp [loadVar, hra, run_load, this], hy⟩
      | true =>
        simp only [hrow, hcl] at hp
        have key : ∀ n, o + n ≤ cs.length → n = P.cellsOf T → (loadVar T ⟨b, off + (i * e + o), none⟩).run P c.w = .ok (.agg ((cv.toList.drop o).take n).toArray) c.w := fun n hn hnT => by
          have hlen : ((cv.toList.drop o).take n).length = n := by simp at hl ⊢; omega
          have hl2 : (loadCells ⟨b, off + (i * e + o), none⟩ ((cv.toList.drop o).take n).length).run P c.w = .ok ((cv.toList.drop o).take n).toArray c.w :=
            run_loadCells_list (P := P) c.w _ _ (fun j v hv => by
              rw [Addr.add_mid]
              have hjn : j < n := by
                have := (List.getElem?_eq_some_iff.1 hv).1
                omega
              rw [List.getElem?_take, if_pos hjn, List.getElem?_drop] at hv
              have := cellAt (o + j) v (by simpa using hv)
              rwa [show off + (i * e + (o + j)) = off + (i * e + o) + j by omega] at this)
          rw [hlen] at hl2
          simp [loadVar, hra, cellsOf_run hc, ← hnT, hl2]
        split at hp
        · rename_i hw
          obtain ⟨rfl, hw⟩ := hw
          cases hp
          refine ⟨_, key _ (by omega) rfl, ?_⟩
          have : ((cv.toList.drop 0).take (P.cellsOf T)).toArray = cv := by
            rw [List.drop_zero, List.take_of_length_le (by simp at hl ⊢; omega)]
          rw [this]; exact hx
        · split at hp
          · rename_i hw
            cases hp
            refine ⟨_, key _ hw rfl, ?_⟩
            simp only [RV]
            exact ⟨_, rfl, RVl_take _ (RVl_drop _ h1), fun v hv => h2 v (List.mem_of_mem_drop (List.mem_of_mem_take hv))⟩
          · cases hp
end Go.AM
