/- What is known of a value against what is told of it: as data; under other numbers. -/
import Derived.Test.YtdeionjkcmpnpaaDoorAmIsound4
set_option linter.unusedSimpArgs false
set_option linter.unusedVariables false
namespace Go.AM
open Go.RowKit

mutual
/-- Nothing of the call's own, nothing unknown. -/
def V.pure : V → Prop
  | .bot | .obj _ _ | .ptr _ _ _ _ | .win _ _ _ _ _ | .opt _ _ | .mp _ => False
  | .func _ a b => pures a ∧ pures b
  | .agg cs => pures cs
  | .tup vs => pures vs
  | _ => True
def pures : List V → Prop
  | [] => True
  | x :: r => x.pure ∧ pures r
end
mutual
/-- No memory is named. -/
def V.noRef : V → Prop
  | .bool _ | .int _ _ | .str _ | .nilS | .nilP | .nilF => True
  | .agg cs => noRefs cs
  | .tup vs => noRefs vs
  | _ => False
def noRefs : List V → Prop
  | [] => True
  | x :: r => x.noRef ∧ noRefs r
end
mutual
/-- No memory of others is named. -/
def V.noSl : V → Prop
  | .sl _ _ | .sn _ _ | .tptr _ _ _ _ => False
  | .func _ a b => noSls a ∧ noSls b
  | .agg cs => noSls cs
  | .tup vs => noSls vs
  | .opt _ x => x.noSl
  | _ => True
def noSls : List V → Prop
  | [] => True
  | x :: r => x.noSl ∧ noSls r
end

mutual
theorem RV_pure {c : Ctx} : ∀ (x : V) (v : Value), x.pure → RV c x v → RV { c with data := true } x v
  | .bot, v, hp, h => by simp [V.pure] at hp
  | .bool b, v, hp, h => by simpa only [RV] using h
  | .int k n, v, hp, h => by simpa only [RV] using h
  | .str s, v, hp, h => by simpa only [RV] using h
  | .nilS, v, hp, h => by simpa only [RV] using h
  | .sl e xs, v, hp, h => by simpa only [RV] using h
  | .nl, v, hp, h => by simpa only [RV] using h
  | .sn e xs, v, hp, h => by simpa only [RV] using h
  | .win id n i o k, v, hp, h => by simp [V.pure] at hp
  | .obj id n, v, hp, h => by simp [V.pure] at hp
  | .ptr id n i o, v, hp, h => by simp [V.pure] at hp
  | .mp id, v, hp, h => by simp [V.pure] at hp
  | .tptr e xs i o, v, hp, h => by simpa only [RV] using h
  | .nilP, v, hp, h => by simpa only [RV] using h
  | .func fn f cs, v, hp, h => by
    simp only [RV, V.pure] at h hp ⊢
    obtain ⟨f1, c1, hv, h1, h2⟩ := h
    exact ⟨f1, c1, hv, RVl_pure _ _ hp.1 h1, RVl_pure _ _ hp.2 h2⟩
  | .nilF, v, hp, h => by simpa only [RV] using h
  | .agg cs, v, hp, h => by
    simp only [RV, V.pure] at h hp ⊢
    obtain ⟨cv, hv, h1, h2⟩ := h
    exact ⟨cv, hv, RVl_pure _ _ hp h1, h2⟩
  | .tup vs, v, hp, h => by
    simp only [RV, V.pure] at h hp ⊢
    obtain ⟨cv, hv, h1⟩ := h
    exact ⟨cv, hv, RVl_pure _ _ hp h1⟩
  | .opt g x, v, hp, h => by simp [V.pure] at hp
theorem RVl_pure {c : Ctx} : ∀ (xs : List V) (us : List Value), pures xs → RVl c xs us → RVl { c with data := true } xs us
  | [], us, hp, h => by simpa only [RVl] using h
  | x :: xs, us, hp, h => by
    simp only [RVl, pures] at h hp ⊢
    obtain ⟨u, r, hu, h1, h2⟩ := h
    exact ⟨u, r, hu, RV_pure x u hp.1 h1, RVl_pure xs r hp.2 h2⟩
end

mutual
theorem RV_noRef {c c' : Ctx} : ∀ (x : V) (v : Value), x.noRef → RV c x v → RV c' x v
  | .bot, v, hp, h => by simp [V.noRef] at hp
  | .bool b, v, hp, h => by simpa only [RV] using h
  | .int k n, v, hp, h => by simpa only [RV] using h
  | .str s, v, hp, h => by simpa only [RV] using h
  | .nilS, v, hp, h => by simpa only [RV] using h
  | .sl e xs, v, hp, h => by simp [V.noRef] at hp
  | .nl, v, hp, h => by simp [V.noRef] at hp
  | .sn e xs, v, hp, h => by simp [V.noRef] at hp
  | .win id n i o k, v, hp, h => by simp [V.noRef] at hp
  | .obj id n, v, hp, h => by simp [V.noRef] at hp
  | .ptr id n i o, v, hp, h => by simp [V.noRef] at hp
  | .mp id, v, hp, h => by simp [V.noRef] at hp
  | .tptr e xs i o, v, hp, h => by simp [V.noRef] at hp
  | .nilP, v, hp, h => by simpa only [RV] using h
  | .func fn f cs, v, hp, h => by simp [V.noRef] at hp
  | .nilF, v, hp, h => by simpa only [RV] using h
  | .agg cs, v, hp, h => by
    simp only [RV, V.noRef] at h hp ⊢
    obtain ⟨cv, hv, h1, h2⟩ := h
    exact ⟨cv, hv, RVl_noRef _ _ hp h1, h2⟩
  | .tup vs, v, hp, h => by
    simp only [RV, V.noRef] at h hp ⊢
    obtain ⟨cv, hv, h1⟩ := h
    exact ⟨cv, hv, RVl_noRef _ _ hp h1⟩
  | .opt g x, v, hp, h => by simp [V.noRef] at hp
theorem RVl_noRef {c c' : Ctx} : ∀ (xs : List V) (us : List Value), noRefs xs → RVl c xs us → RVl c' xs us
  | [], us, hp, h => by simpa only [RVl] using h
  | x :: xs, us, hp, h => by
    simp only [RVl, noRefs] at h hp ⊢
    obtain ⟨u, r, hu, h1, h2⟩ := h
    exact ⟨u, r, hu, RV_noRef x u hp.1 h1, RVl_noRef xs r hp.2 h2⟩
end

/-! ## told as data -/

def all2 (R : V → V → Prop) : List V → List V → Prop
  | [], [] => True
  | x :: xs, y :: ys => R x y ∧ all2 R xs ys
  | _, _ => False

/-- What is handed over (the first one), told as data (the second one). B: which of the call's own things may be told; D: what else may stand in it. -/
def argLe (hp : Heap) (B : Nat → Prop) (D : V → Prop) : Nat → V → V → Prop
  | 0, x, y => x = y ∧ D x
  | n + 1, x, y => match x, y with
    | .nilS, .sl _ ys => ys = []
    | .obj id m, .sl e ys => B id ∧ ∃ ob, hp id = some ob ∧ m = ob.xs.length ∧ e = ob.e ∧ all2 (argLe hp B D n) ob.xs ys
    | .ptr id m i o, .tptr e ys i' o' => B id ∧ ∃ ob, hp id = some ob ∧ m = ob.xs.length ∧ e = ob.e ∧ i = i' ∧ o = o' ∧ all2 (argLe hp B D n) ob.xs ys
    | .win id m i o k, .sl e ys => B id ∧ ∃ ob cs, hp id = some ob ∧ m = ob.xs.length ∧ e = 1 ∧ ob.xs[i]? = some (.agg cs) ∧ o + k ≤ cs.length ∧ all2 (argLe hp B D n) ((cs.drop o).take k) ys
    | .agg xs, .agg ys => all2 (argLe hp B D n) xs ys
    | .tup xs, .tup ys => all2 (argLe hp B D n) xs ys
    | .func f a b, .func g c d => f = g ∧ all2 (argLe hp B D n) a c ∧ all2 (argLe hp B D n) b d
    | .opt g x, y => g = true ∧ argLe hp B D n x y
    | x, y => x = y ∧ D x

theorem all2_sound {c c' : Ctx} {R : V → V → Prop} (h : ∀ x y v, R x y → RV c x v → RV c' y v) : ∀ (xs ys : List V) (us : List Value), all2 R xs ys → RVl c xs us → RVl c' ys us
  | [], [], us, _, hx => by simpa only [RVl] using hx
  | x :: xs, y :: ys, us, hr, hx => by
    simp only [all2] at hr
    simp only [RVl] at hx ⊢
    obtain ⟨u, r, rfl, h1, h2⟩ := hx
    exact ⟨u, r, rfl, h x y u hr.1 h1, all2_sound h xs ys r hr.2 h2⟩
  | [], _ :: _, us, hr, _ => hr.elim
  | _ :: _, [], us, hr, _ => hr.elim

theorem all2_length {R : V → V → Prop} : ∀ {xs ys : List V}, all2 R xs ys → xs.length = ys.length
  | [], [], _ => rfl
  | _ :: _, _ :: _, h => by simp only [all2] at h; simp [all2_length h.2]
  | [], _ :: _, h => h.elim
  | _ :: _, [], h => h.elim

theorem argLe_sound {c : Ctx} {c' : Ctx} (hl : Laid c) (hcd : c.data = false) (hw : c'.w = c.w) {B : Nat → Prop} {D : V → Prop} (hD : ∀ x v, D x → RV c x v → RV { c' with data := true } x v)
    (hO : ∀ id ob b, B id → c.hp id = some ob → blk (c.η id) = some b → ¬ c'.O b) : ∀ (n : Nat) (x y : V) (v : Value), argLe c.hp B D n x y → RV c x v → RV { c' with data := true } y v
  | 0, x, y, v, h, hx => by
    simp only [argLe] at h
    obtain ⟨rfl, h⟩ := h
    exact hD _ _ h hx
  | n + 1, x, y, v, h, hx => by
    have ih := fun x y v => argLe_sound hl hcd hw hD hO n x y v
    unfold argLe at h
    split at h
    · subst h
      simp only [RV] at hx ⊢
      exact ⟨none, 0, [], by simpa using hx, by simp, by simp, by simp [RVl], by simp, by simp [flat], .inl trivial⟩
    · rename_i id m e ys
      obtain ⟨hb, ob, hid, hn, rfl, hel⟩ := h
      simp only [RV] at hx ⊢
      obtain ⟨_, _, _, hx⟩ := hx
      simp only [hid] at hx
      obtain ⟨hpos, hkn, hlen, us, r1, r2, r3, r4⟩ := laidC_row hl hcd hid hx.1
      have hη := hx.2.2 hn
      have hl := all2_length hel
      have r1' := all2_sound ih _ _ us hel r1
      have hkro : ∀ g, blk (c.η id) = some g → ¬ c'.O g := fun g hg => hO id ob g hb hid hg
      rcases r4.2 with ⟨h3, h4⟩ | ⟨g, cp, cur, h3, _, hg, hnc, _⟩
      · have hxs : ob.xs = [] := List.eq_nil_of_length_eq_zero h4
        have hys : ys = [] := List.eq_nil_of_length_eq_zero (by rw [← hl, hxs]; rfl)
        exact ⟨none, 0, us, by rw [hη, h3, hys]; rfl, by simp [hys], by simp [hys], r1', r2, r3, .inl hys⟩
      · exact ⟨some ⟨g, 0, none⟩, cp, us, by rw [hη, h3, ← hl], by rw [← hl]; exact hnc, by rw [← hl]; exact hlen, r1', r2, r3, .inr ⟨g, 0, rfl, hkro g (by rw [h3]; rfl), by rw [hw]; exact (Array.getElem?_eq_some_iff.1 hg).1, by rw [hw]; exact row_range r4 (by rw [h3]; rfl)⟩⟩
    · rename_i id m i o e ys i' o'
      obtain ⟨hb, ob, hid, hn, rfl, rfl, rfl, hel⟩ := h
      simp only [RV] at hx ⊢
      obtain ⟨_, _, _, hx⟩ := hx
      simp only [hid] at hx
      obtain ⟨hpos, hkn, hlen, us, r1, r2, r3, r4⟩ := laidC_row hl hcd hid hx.1
      obtain ⟨g, hg, hv⟩ := hx.2.2 hn
      have r1' := all2_sound ih _ _ us hel r1
      have hlt : g < c.w.heap.size := by rw [blk_row r4] at hg; exact (r4.lt g hg).2
      exact ⟨g, 0, us, r1', r2, hO id ob g hb hid hg, by rw [hw]; exact hlt, by rw [hw]; exact row_range r4 hg, by rw [hv]; simp⟩
    · rename_i id m i o k e ys
      obtain ⟨hb, ob, cs, hid, hn, rfl, hcs, hlk, hel⟩ := h
      simp only [RV] at hx ⊢
      obtain ⟨_, _, _, hx⟩ := hx
      simp only [hid] at hx
      obtain ⟨hpos, hkn, hlen, us, r1, r2, r3, r4⟩ := laidC_row hl hcd hid hx.1
      obtain ⟨g, cp, hg, hv, hkc, hkl⟩ := hx.2.2 hn
      have hl2 := all2_length hel
      have hlt : g < c.w.heap.size := by rw [blk_row r4] at hg; exact (r4.lt g hg).2
      obtain ⟨u, hu, hru⟩ := RVl_get r1 i _ hcs
      simp only [RV] at hru
      obtain ⟨cv, rfl, hc1, hc2⟩ := hru
      have hcl := RVl_length hc1
      have hue : cv.size = ob.e := r2 _ (List.mem_of_getElem? hu)
      have hlk' : ((cs.drop o).take k).length = k := by rw [List.length_take, List.length_drop]; omega
      have r1' := all2_sound ih _ _ ((cv.toList.drop o).take k) hel (RVl_take k (RVl_drop o hc1))
      have hone : ∀ x ∈ (cv.toList.drop o).take k, x.oneCell' = true := fun x hx => hc2 x (List.mem_of_mem_drop (List.mem_of_mem_take hx))
      have hflat : flat ((cv.toList.drop o).take k) = (cv.toList.drop o).take k := flat_ones hone
      have hys : ys.length = k := by rw [← hl2, hlk']
      refine ⟨some ⟨g, i * ob.e + o, none⟩, cp, (cv.toList.drop o).take k, by rw [hv, hys], by omega, by omega, r1', fun x hx => by rw [cells_one (hone x hx)]; rfl, by rw [hflat]; exact hone, .inr ⟨g, i * ob.e + o, rfl, hO id ob g hb hid hg, by rw [hw]; exact hlt, ?_⟩⟩
      rw [hw, hflat]
      intro j x hj
      have hrow := row_range r4 hg
      have hjk : j < k := by
        have := (List.getElem?_eq_some_iff.1 hj).1
        rw [List.length_take, List.length_drop] at this
        omega
      rw [List.getElem?_take, if_pos hjk, List.getElem?_drop] at hj
      have hat : (flat us)[i * ob.e + (o + j)]? = some x := by
        have hjo := (List.getElem?_eq_some_iff.1 hj).1
        rw [flat_get r2 i _ hu (o + j) (by simp at hjo; omega)]
        simpa [Value.cells] using hj
      have := hrow _ x hat
      rw [show 0 + (i * ob.e + (o + j)) = i * ob.e + o + j by omega] at this
      exact this
    · rename_i xs ys
      simp only [RV] at hx ⊢
      obtain ⟨cv, hv, h1, h2⟩ := hx
      exact ⟨cv, hv, all2_sound ih _ _ _ h h1, h2⟩
    · rename_i xs ys
      simp only [RV] at hx ⊢
      obtain ⟨cv, hv, h1⟩ := hx
      exact ⟨cv, hv, all2_sound ih _ _ _ h h1⟩
    · rename_i f a1 b1 g c1 d1
      obtain ⟨rfl, h1, h2⟩ := h
      simp only [RV] at hx ⊢
      obtain ⟨f1, g1, hv, g2, g3⟩ := hx
      exact ⟨f1, g1, hv, all2_sound ih _ _ _ h1 g2, all2_sound ih _ _ _ h2 g3⟩
    · rename_i g x
      simp only [RV] at hx
      exact ih _ _ _ h.2 (hx.2.1 h.1)
    · obtain ⟨rfl, h⟩ := h
      exact hD _ _ h hx

/-! ## told under other numbers -/

/-- Of a state's numbers what the other state's stand for (none: a row that is still to be made). -/
abbrev Ren := List (Nat × Option Nat)

mutual
/-- What is known of a value (the first one) is at least what is told of it (the second one). hp: what stands under the first one's numbers; σ: what the second one's numbers stand for; B: which of the first one's may be told as data. -/
def vLe (hp : Heap) (σ : Nat → Option (Option Nat)) (B : Nat → Prop) : V → V → Prop
  | _, .bot => True
  | .nilS, .obj id n => n = 0 ∧ σ id = some none
  | .nilS, .sl _ ys => ys = []
  | .obj id n, .obj id' n' => n = n' ∧ σ id' = some (some id)
  | .obj id n, .sl e ys => argLe hp B V.pure 8 (.obj id n) (.sl e ys)
  | .ptr id n i o, .ptr id' n' i' o' => n = n' ∧ i = i' ∧ o = o' ∧ σ id' = some (some id)
  | .ptr id n i o, .tptr e ys i' o' => argLe hp B V.pure 8 (.ptr id n i o) (.tptr e ys i' o')
  | .win id n i o k, .win id' n' i' o' k' => n = n' ∧ i = i' ∧ o = o' ∧ k = k' ∧ σ id' = some (some id)
  | .win id n i o k, .sl e ys => argLe hp B V.pure 8 (.win id n i o k) (.sl e ys)
  | .mp id, .mp id' => σ id' = some (some id)
  | .agg xs, .agg ys => vsLe hp σ B xs ys
  | .tup xs, .tup ys => vsLe hp σ B xs ys
  | .func f a b, .func g c d => f = g ∧ vsLe hp σ B a c ∧ vsLe hp σ B b d
  | .opt g x, y => g = true ∧ vLe hp σ B x y
  | x, y => x = y ∧ x.pure
def vsLe (hp : Heap) (σ : Nat → Option (Option Nat)) (B : Nat → Prop) : List V → List V → Prop
  | [], ys => ys = []
  | x :: xs, ys => ∃ y r, ys = y :: r ∧ vLe hp σ B x y ∧ vsLe hp σ B xs r
end

def look {α : Type} : List (Nat × α) → Nat → Option α
  | [], _ => none
  | (k, x) :: r, t => if t = k then some x else look r t
def σf (l : Ren) (id : Nat) : Option (Option Nat) := look l id

theorem vsLe_length {hp : Heap} {σ : Nat → Option (Option Nat)} {B : Nat → Prop} : ∀ {xs ys : List V}, vsLe hp σ B xs ys → ys.length = xs.length
  | [], ys, h => by simp only [vsLe] at h; simp [h]
  | x :: xs, ys, h => by
    simp only [vsLe] at h
    obtain ⟨y, r, rfl, _, h2⟩ := h
    simp [vsLe_length h2]

/-- Two memories of one world. -/
structure Tells (c c' : Ctx) (σ : Nat → Option (Option Nat)) (B : Nat → Prop) : Prop where
  laid : Laid c
  w : c'.w = c.w
  d : c.data = false
  d' : c'.data = false
  O : ∀ b, c'.O b → c.O b
  B : ∀ id ob b, B id → c.hp id = some ob → blk (c.η id) = some b → ¬ c'.O b
  ren : ∀ i j, σ i = some (some j) → c'.kn i ∧ c'.η i = c.η j ∧ ∀ o', c'.hp i = some o' → ∃ o, c.hp j = some o ∧ o'.xs.length = o.xs.length ∧ o'.e = o.e ∧ (o'.k = .map ↔ o.k = .map)
  new : ∀ i, σ i = some none → c'.kn i ∧ c'.η i = .slice none 0 0 ∧ ∀ o', c'.hp i = some o' → o'.k ≠ .map

theorem RV_bot {c : Ctx} (hc : c.data = false) {v : Value} : RV c .bot v := by simp only [RV]; exact hc

section
variable {c c' : Ctx} {σ : Nat → Option (Option Nat)} {B : Nat → Prop}

theorem Tells.keepD (T : Tells c c' σ B) : Keeps { c with data := true } { c' with data := true } :=
  ⟨by rw [T.w]; exact Nat.le_refl _, fun _ _ _ _ => by rw [T.w], fun b _ hO => T.O b hO, rfl, by simp, by simp⟩

theorem Tells.ofD (T : Tells c c' σ B) {x : V} {v : Value} (h : RV { c' with data := true } x v) : RV c' x v := by
  have := RV_data (c := c') x v h
  have hc : ({ c' with data := false } : Ctx) = c' := by have := T.d'; cases c'; simp_all
  rwa [hc] at this

theorem Tells.plain (T : Tells c c' σ B) (x y : V) (v : Value) (h : x = y ∧ x.pure) (hx : RV c x v) : RV c' y v := by
  obtain ⟨rfl, hp⟩ := h
  exact T.ofD (RV_keep T.keepD _ _ (RV_pure x v hp hx))

theorem Tells.arg (T : Tells c c' σ B) {n : Nat} (x y : V) (v : Value) (h : argLe c.hp B V.pure n x y) (hx : RV c x v) : RV c' y v :=
  T.ofD (argLe_sound T.laid T.d T.w (fun x v hp hx => RV_keep T.keepD _ _ (RV_pure x v hp hx)) T.B n x y v h hx)

mutual
theorem vLe_sound (T : Tells c c' σ B) : ∀ (x y : V) (v : Value), vLe c.hp σ B x y → RV c x v → RV c' y v
  | .nilS, y, v, h, hx => by
    cases y with
    | bot => exact RV_bot T.d'
    | obj id n =>
      simp only [vLe] at h
      obtain ⟨rfl, h⟩ := h
      obtain ⟨h1, h2, h3⟩ := T.new id h
      simp only [RV] at hx ⊢
      refine ⟨⟨_, _, _, hx⟩, T.d', h1, ?_⟩
      cases ho : c'.hp id with
      | none => trivial
      | some o' => exact ⟨h3 o' ho, Nat.zero_le _, fun _ => by rw [hx, h2]⟩
    | sl e ys =>
      simp only [vLe] at h
      subst h
      simp only [RV] at hx ⊢
      exact ⟨none, 0, [], by simpa using hx, by simp, by simp, by simp [RVl], by simp, by simp [flat], .inl trivial⟩
    | _ => exact T.plain _ _ v (by simpa only [vLe] using h) hx
  | .obj id n, y, v, h, hx => by
    cases y with
    | bot => exact RV_bot T.d'
    | obj id' n' =>
      simp only [vLe] at h
      obtain ⟨rfl, h⟩ := h
      obtain ⟨h1, h2, h3⟩ := T.ren id' id h
      simp only [RV] at hx ⊢
      obtain ⟨hz, _, _, hx⟩ := hx
      refine ⟨hz, T.d', h1, ?_⟩
      cases ho : c'.hp id' with
      | none => trivial
      | some o' =>
        obtain ⟨o, g1, g2, g3, g4⟩ := h3 o' ho
        rw [g1] at hx
        exact ⟨fun hk => hx.1 (g4.1 hk), by rw [g2]; exact hx.2.1, fun hn => by rw [h2]; exact hx.2.2 (by rw [← g2]; exact hn)⟩
    | sl e ys => exact T.arg _ _ v (by simpa only [vLe] using h) hx
    | _ => exact T.plain _ _ v (by simpa only [vLe] using h) hx
  | .ptr id n i o, y, v, h, hx => by
    cases y with
    | bot => exact RV_bot T.d'
    | ptr id' n' i' o' =>
      simp only [vLe] at h
      obtain ⟨rfl, rfl, rfl, h⟩ := h
      obtain ⟨h1, h2, h3⟩ := T.ren id' id h
      simp only [RV] at hx ⊢
      obtain ⟨hz, _, _, hx⟩ := hx
      refine ⟨hz, T.d', h1, ?_⟩
      cases ho : c'.hp id' with
      | none => trivial
      | some o' =>
        obtain ⟨o, g1, g2, g3, g4⟩ := h3 o' ho
        rw [g1] at hx
        exact ⟨fun hk => hx.1 (g4.1 hk), by rw [g2]; exact hx.2.1, fun hn => by rw [h2, g3]; exact hx.2.2 (by rw [← g2]; exact hn)⟩
    | tptr e ys i' o' => exact T.arg _ _ v (by simpa only [vLe] using h) hx
    | _ => exact T.plain _ _ v (by simpa only [vLe] using h) hx
  | .win id n i o k, y, v, h, hx => by
    cases y with
    | bot => exact RV_bot T.d'
    | win id' n' i' o' k' =>
      simp only [vLe] at h
      obtain ⟨rfl, rfl, rfl, rfl, h⟩ := h
      obtain ⟨h1, h2, h3⟩ := T.ren id' id h
      simp only [RV] at hx ⊢
      obtain ⟨hz, _, _, hx⟩ := hx
      refine ⟨hz, T.d', h1, ?_⟩
      cases ho : c'.hp id' with
      | none => trivial
      | some o' =>
        obtain ⟨o, g1, g2, g3, g4⟩ := h3 o' ho
        rw [g1] at hx
        exact ⟨fun hk => hx.1 (g4.1 hk), by rw [g2]; exact hx.2.1, fun hn => by rw [h2, g3]; exact hx.2.2 (by rw [← g2]; exact hn)⟩
    | sl e ys => exact T.arg _ _ v (by simpa only [vLe] using h) hx
    | _ => exact T.plain _ _ v (by simpa only [vLe] using h) hx
  | .mp id, y, v, h, hx => by
    cases y with
    | bot => exact RV_bot T.d'
    | mp id' =>
      simp only [vLe] at h
      obtain ⟨h1, h2, h3⟩ := T.ren id' id h
      simp only [RV] at hx ⊢
      obtain ⟨hz, _, _, hx⟩ := hx
      refine ⟨hz, T.d', h1, ?_⟩
      cases ho : c'.hp id' with
      | none => trivial
      | some o' =>
        obtain ⟨o, g1, g2, g3, g4⟩ := h3 o' ho
        rw [g1] at hx
        exact ⟨g4.2 hx.1, by rw [h2]; exact hx.2⟩
    | _ => exact T.plain _ _ v (by simpa only [vLe] using h) hx
  | .agg xs, y, v, h, hx => by
    cases y with
    | bot => exact RV_bot T.d'
    | agg ys =>
      simp only [vLe] at h
      simp only [RV] at hx ⊢
      obtain ⟨cv, hv, h1, h2⟩ := hx
      exact ⟨cv, hv, vsLe_sound T xs ys _ h h1, h2⟩
    | _ => exact T.plain _ _ v (by simpa only [vLe] using h) hx
  | .tup xs, y, v, h, hx => by
    cases y with
    | bot => exact RV_bot T.d'
    | tup ys =>
      simp only [vLe] at h
      simp only [RV] at hx ⊢
      obtain ⟨cv, hv, h1⟩ := hx
      exact ⟨cv, hv, vsLe_sound T xs ys _ h h1⟩
    | _ => exact T.plain _ _ v (by simpa only [vLe] using h) hx
  | .func f p q, y, v, h, hx => by
    cases y with
    | bot => exact RV_bot T.d'
    | func g c d =>
      simp only [vLe] at h
      obtain ⟨rfl, h1, h2⟩ := h
      simp only [RV] at hx ⊢
      obtain ⟨f1, c1, hv, g1, g2⟩ := hx
      exact ⟨f1, c1, hv, vsLe_sound T p c _ h1 g1, vsLe_sound T q d _ h2 g2⟩
    | _ => exact T.plain _ _ v (by simpa only [vLe] using h) hx
  | .opt g x, y, v, h, hx => by
    simp only [RV] at hx
    cases y with
    | bot => exact RV_bot T.d'
    | _ =>
      simp only [vLe] at h
      exact vLe_sound T x _ v h.2 (hx.2.1 h.1)
  | .bot, y, v, h, hx => by
    cases y with
    | bot => exact RV_bot T.d'
    | _ => exact T.plain _ _ v (by simpa only [vLe] using h) hx
  | .bool _, y, v, h, hx => by
    cases y with
    | bot => exact RV_bot T.d'
    | _ => exact T.plain _ _ v (by simpa only [vLe] using h) hx
  | .int _ _, y, v, h, hx => by
    cases y with
    | bot => exact RV_bot T.d'
    | _ => exact T.plain _ _ v (by simpa only [vLe] using h) hx
  | .str _, y, v, h, hx => by
    cases y with
    | bot => exact RV_bot T.d'
    | _ => exact T.plain _ _ v (by simpa only [vLe] using h) hx
  | .sl _ _, y, v, h, hx => by
    cases y with
    | bot => exact RV_bot T.d'
    | _ => exact T.plain _ _ v (by simpa only [vLe] using h) hx
  | .nl, y, v, h, hx => by
    cases y with
    | bot => exact RV_bot T.d'
    | _ => exact T.plain _ _ v (by simpa only [vLe] using h) hx
  | .sn _ _, y, v, h, hx => by
    cases y with
    | bot => exact RV_bot T.d'
    | _ => exact T.plain _ _ v (by simpa only [vLe] using h) hx
  | .tptr _ _ _ _, y, v, h, hx => by
    cases y with
    | bot => exact RV_bot T.d'
    | _ => exact T.plain _ _ v (by simpa only [vLe] using h) hx
  | .nilP, y, v, h, hx => by
    cases y with
    | bot => exact RV_bot T.d'
    | _ => exact T.plain _ _ v (by simpa only [vLe] using h) hx
  | .nilF, y, v, h, hx => by
    cases y with
    | bot => exact RV_bot T.d'
    | _ => exact T.plain _ _ v (by simpa only [vLe] using h) hx
theorem vsLe_sound (T : Tells c c' σ B) : ∀ (xs ys : List V) (us : List Value), vsLe c.hp σ B xs ys → RVl c xs us → RVl c' ys us
  | [], ys, us, h, hx => by
    simp only [vsLe] at h
    subst h
    simpa only [RVl] using hx
  | x :: xs, ys, us, h, hx => by
    simp only [vsLe] at h
    obtain ⟨y, r, rfl, h1, h2⟩ := h
    simp only [RVl] at hx ⊢
    obtain ⟨u, q, hu, g1, g2⟩ := hx
    exact ⟨u, q, hu, vLe_sound T x y u h1 g1, vsLe_sound T xs r q h2 g2⟩
end
end

/-! ## renamed -/
mutual
def V.ren (τ : Nat → Nat) : V → V
  | .obj id n => .obj (τ id) n
  | .ptr id n i o => .ptr (τ id) n i o
  | .win id n i o k => .win (τ id) n i o k
  | .mp id => .mp (τ id)
  | .func f a b => .func f (rens τ a) (rens τ b)
  | .agg cs => .agg (rens τ cs)
  | .tup vs => .tup (rens τ vs)
  | .opt g x => .opt g (x.ren τ)
  | x => x
def rens (τ : Nat → Nat) : List V → List V
  | [] => []
  | x :: r => x.ren τ :: rens τ r
end
theorem rens_length (τ : Nat → Nat) : ∀ xs : List V, (rens τ xs).length = xs.length
  | [] => rfl
  | x :: r => by simp [rens, rens_length τ r]

/-- Numbers of one memory stand under other ones in another memory. -/
structure Rens (c c' : Ctx) (τ : Nat → Nat) : Prop where
  w : c'.w = c.w
  d : c.data = false
  d' : c'.data = false
  at_ : ∀ i, c.kn i → c'.kn (τ i) ∧ c'.η (τ i) = c.η i ∧ (∀ o', c'.hp (τ i) = some o' → ∃ o, c.hp i = some o ∧ o'.xs.length = o.xs.length ∧ o'.e = o.e ∧ (o'.k = .map ↔ o.k = .map))

section
variable {c c' : Ctx} {τ : Nat → Nat}
mutual
theorem ren_sound (T : Rens c c' τ) : ∀ (x : V) (v : Value), (x.noSl ∨ ∀ b, c'.O b → c.O b) → RV c x v → RV c' (x.ren τ) v
  | .bot, v, hO, h => by simp only [V.ren, RV]; exact T.d'
  | .bool b, v, hO, h => by simpa only [V.ren, RV] using h
  | .int k n, v, hO, h => by simpa only [V.ren, RV] using h
  | .str s, v, hO, h => by simpa only [V.ren, RV] using h
  | .nilS, v, hO, h => by simpa only [V.ren, RV] using h
  | .nilP, v, hO, h => by simpa only [V.ren, RV] using h
  | .nilF, v, hO, h => by simpa only [V.ren, RV] using h
  | .sl e xs, v, hO, h => by
    have hO := hO.resolve_left (by simp [V.noSl])
    have K : Keeps { c with data := true } { c' with data := true } := ⟨by rw [T.w]; exact Nat.le_refl _, fun _ _ _ _ => by rw [T.w], fun b _ => hO b, rfl, by simp, by simp⟩
    have := RV_data (c := c') _ _ (RV_keep K _ _ (RV_pure (c := c) (.sl e xs) v (by simp [V.pure]) h))
    have hc : ({ c' with data := false } : Ctx) = c' := by have := T.d'; cases c'; simp_all
    rwa [hc] at this
  | .sn e xs, v, hO, h => by
    have hO := hO.resolve_left (by simp [V.noSl])
    have K : Keeps { c with data := true } { c' with data := true } := ⟨by rw [T.w]; exact Nat.le_refl _, fun _ _ _ _ => by rw [T.w], fun b _ => hO b, rfl, by simp, by simp⟩
    have := RV_data (c := c') _ _ (RV_keep K _ _ (RV_pure (c := c) (.sn e xs) v (by simp [V.pure]) h))
    have hc : ({ c' with data := false } : Ctx) = c' := by have := T.d'; cases c'; simp_all
    rwa [hc] at this
  | .nl, v, hO, h => by simpa only [V.ren, RV] using h
  | .tptr e xs i o, v, hO, h => by
    have hO := hO.resolve_left (by simp [V.noSl])
    have K : Keeps { c with data := true } { c' with data := true } := ⟨by rw [T.w]; exact Nat.le_refl _, fun _ _ _ _ => by rw [T.w], fun b _ => hO b, rfl, by simp, by simp⟩
    have := RV_data (c := c') _ _ (RV_keep K _ _ (RV_pure (c := c) (.tptr e xs i o) v (by simp [V.pure]) h))
    have hc : ({ c' with data := false } : Ctx) = c' := by have := T.d'; cases c'; simp_all
    rwa [hc] at this
  | .obj id n, v, hO, h => by
    simp only [V.ren, RV] at h ⊢
    obtain ⟨hz, _, hk, h⟩ := h
    obtain ⟨h1, h2, h3⟩ := T.at_ id hk
    refine ⟨hz, T.d', h1, ?_⟩
    cases ho : c'.hp (τ id) with
    | none => trivial
    | some o' =>
      obtain ⟨o, g1, g2, g3, g4⟩ := h3 o' ho
      rw [g1] at h
      exact ⟨fun hk => h.1 (g4.1 hk), by rw [g2]; exact h.2.1, fun hn => by rw [h2]; exact h.2.2 (by rw [← g2]; exact hn)⟩
  | .ptr id n i o, v, hO, h => by
    simp only [V.ren, RV] at h ⊢
    obtain ⟨hz, _, hk, h⟩ := h
    obtain ⟨h1, h2, h3⟩ := T.at_ id hk
    refine ⟨hz, T.d', h1, ?_⟩
    cases ho : c'.hp (τ id) with
    | none => trivial
    | some o' =>
      obtain ⟨o, g1, g2, g3, g4⟩ := h3 o' ho
      rw [g1] at h
      exact ⟨fun hk => h.1 (g4.1 hk), by rw [g2]; exact h.2.1, fun hn => by rw [h2, g3]; exact h.2.2 (by rw [← g2]; exact hn)⟩
  | .win id n i o k, v, hO, h => by
    simp only [V.ren, RV] at h ⊢
    obtain ⟨hz, _, hk, h⟩ := h
    obtain ⟨h1, h2, h3⟩ := T.at_ id hk
    refine ⟨hz, T.d', h1, ?_⟩
    cases ho : c'.hp (τ id) with
    | none => trivial
    | some o' =>
      obtain ⟨o, g1, g2, g3, g4⟩ := h3 o' ho
      rw [g1] at h
      exact ⟨fun hk => h.1 (g4.1 hk), by rw [g2]; exact h.2.1, fun hn => by rw [h2, g3]; exact h.2.2 (by rw [← g2]; exact hn)⟩
  | .mp id, v, hO, h => by
    simp only [V.ren, RV] at h ⊢
    obtain ⟨hz, _, hk, h⟩ := h
    obtain ⟨h1, h2, h3⟩ := T.at_ id hk
    refine ⟨hz, T.d', h1, ?_⟩
    cases ho : c'.hp (τ id) with
    | none => trivial
    | some o' =>
      obtain ⟨o, g1, g2, g3, g4⟩ := h3 o' ho
      rw [g1] at h
      exact ⟨g4.2 h.1, by rw [h2]; exact h.2⟩
  | .func f a b, v, hO, h => by
    simp only [V.ren, RV, V.noSl] at h hO ⊢
    obtain ⟨f1, c1, hv, g1, g2⟩ := h
    exact ⟨f1, c1, hv, rens_sound T a _ (hO.imp_left (·.1)) g1, rens_sound T b _ (hO.imp_left (·.2)) g2⟩
  | .agg cs, v, hO, h => by
    simp only [V.ren, RV, V.noSl] at h hO ⊢
    obtain ⟨cv, hv, h1, h2⟩ := h
    exact ⟨cv, hv, rens_sound T cs _ hO h1, h2⟩
  | .tup cs, v, hO, h => by
    simp only [V.ren, RV, V.noSl] at h hO ⊢
    obtain ⟨cv, hv, h1⟩ := h
    exact ⟨cv, hv, rens_sound T cs _ hO h1⟩
  | .opt g x, v, hO, h => by
    simp only [V.ren, RV, V.noSl] at h hO ⊢
    exact ⟨T.d', fun hg => ren_sound T x v hO (h.2.1 hg), h.2.2⟩
theorem rens_sound (T : Rens c c' τ) : ∀ (xs : List V) (us : List Value), (noSls xs ∨ ∀ b, c'.O b → c.O b) → RVl c xs us → RVl c' (rens τ xs) us
  | [], us, hO, h => by simpa only [rens, RVl] using h
  | x :: xs, us, hO, h => by
    simp only [rens, RVl, noSls] at h hO ⊢
    obtain ⟨u, r, hu, h1, h2⟩ := h
    exact ⟨u, r, hu, ren_sound T x u (hO.imp_left (·.1)) h1, rens_sound T xs r (hO.imp_left (·.2)) h2⟩
end
end
end Go.AM
