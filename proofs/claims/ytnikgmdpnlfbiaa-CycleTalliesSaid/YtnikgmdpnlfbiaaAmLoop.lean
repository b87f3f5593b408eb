/- Loops: a state is weakened to another one; what holds at a loop's head. -/
import Derived.Test.YtnikgmdpnlfbiaaAmWalk
namespace Go.AM
open Go.RowKit

/-- Of a state's numbers what the weaker state's stand for: none: a row that is still to be made. -/
abbrev Ren := List (Nat × Option Nat)

mutual
/-- What is known of a value (the first one) is at least what is told of it (the second one). hp: what stands under the first one's numbers; σ: what the second one's numbers stand for; live: its numbers. -/
def vLe (hp : Heap) (σ : Nat → Option (Option Nat)) (live : List Nat) : V → V → Prop
  | _, .bot => True
  | .nilS, .obj id n => n = 0 ∧ σ id = some none
  | .nilS, .sl _ ys => ys = []
  | .obj id n, .obj id' n' => n = n' ∧ σ id' = some (some id)
  | .obj id n, .sl e ys => ∃ ob, hp id = some ob ∧ n = ob.xs.length ∧ e = ob.e ∧ ob.xs = ys ∧ pures ys ∧ id ∉ live
  | .ptr id n i o, .ptr id' n' i' o' => n = n' ∧ i = i' ∧ o = o' ∧ σ id' = some (some id)
  | .agg xs, .agg ys => vsLe hp σ live xs ys
  | .tup xs, .tup ys => vsLe hp σ live xs ys
  | .func f a b, .func g c d => f = g ∧ vsLe hp σ live a c ∧ vsLe hp σ live b d
  | x, y => x = y ∧ x.pure
def vsLe (hp : Heap) (σ : Nat → Option (Option Nat)) (live : List Nat) : List V → List V → Prop
  | [], ys => ys = []
  | x :: xs, ys => ∃ y r, ys = y :: r ∧ vLe hp σ live x y ∧ vsLe hp σ live xs r
end

def σf (l : Ren) (id : Nat) : Option (Option Nat) := look l id

/-- The slots of the weaker state, one by one. -/
def slLe (s : St) (σ : Ren) (live : List Nat) : List (Nat × V) → Prop
  | [] => True
  | (t, y) :: r => vLe (look s.hp) (σf σ) live (s.get t) y ∧ slLe s σ live r
/-- Its objects. -/
def hpLe (s : St) (σ : Ren) (live : List Nat) : List (Nat × Obj) → Prop
  | [] => True
  | (i, o) :: r => (match look σ i with
      | some (some j) => ∃ o', look s.hp j = some o' ∧ o'.k = o.k ∧ o'.T = o.T ∧ o'.e = o.e ∧ o.k ≠ .ro ∧ vsLe (look s.hp) (σf σ) live o'.xs o.xs
      | some none => o.xs = [] ∧ o.k = .arr ∧ 0 < o.e
      | none => False) ∧ hpLe s σ live r

def renOk (n : Nat) (live : List Nat) : Ren → Prop
  | [] => True
  | (i, j) :: r => i < n ∧ (match j with | some j => j ∈ live ∧ ∀ p ∈ r, p.2 ≠ some j | none => True) ∧ (∀ p ∈ r, p.1 ≠ i) ∧ renOk n live r

def Le (s s' : St) : Prop := ∀ (E : Entry) (a : Act) (w : World) (η : Nat → Value), Rel E s.F a w η → ∃ η', Rel E s'.F a w η'

theorem renOk_inj {n : Nat} {live : List Nat} : ∀ {σ : Ren}, renOk n live σ → (∀ i x, look σ i = some x → i < n ∧ (∀ j, x = some j → j ∈ live)) ∧ (∀ i i' j, look σ i = some (some j) → look σ i' = some (some j) → i = i')
  | [], _ => by simp [look]
  | (k, y) :: r, h => by
    simp only [renOk] at h
    obtain ⟨h1, h2, h3, h4⟩ := h
    obtain ⟨g1, g2⟩ := renOk_inj h4
    have mem : ∀ i x, look r i = some x → (i, x) ∈ r := by
      intro i x
      clear h1 h2 h3 h4 g1 g2
      induction r with
      | nil => intro h; simp [look] at h
      | cons p r ih =>
        obtain ⟨a, b⟩ := p
        intro h
        simp only [look] at h
        split at h
        · rename_i hi; cases h; subst hi; simp
        · exact List.mem_cons_of_mem _ (ih h)
    constructor
    · intro i x hx
      simp only [look] at hx
      split at hx
      · rename_i hi; cases hx; subst hi
        refine ⟨h1, fun j hj => ?_⟩
        subst hj; exact h2.1
      · exact g1 i x hx
    · intro i i' j hi hi'
      simp only [look] at hi hi'
      split at hi <;> split at hi'
      · rename_i a b; rw [a, b]
      · rename_i a b; cases hi
        exact absurd rfl (h2.2 _ (mem _ _ hi'))
      · rename_i a b; cases hi'
        exact absurd rfl (h2.2 _ (mem _ _ hi))
      · exact g2 i i' j hi hi'

section
variable {E : Entry} {a : Act} {w : World} {η : Nat → Value} {s s' : St} {σ : Ren} {live : List Nat}

def η2 (η : Nat → Value) (σ : Ren) (i : Nat) : Value := match look σ i with
  | some (some j) => η j
  | _ => .slice none 0 0

structure LeCtx (s s' : St) (σ : Ren) (live : List Nat) : Prop where
  ren : renOk s'.nx live σ
  hp : ∀ i o, look s'.hp i = some o → match look σ i with
      | some (some j) => ∃ o', look s.hp j = some o' ∧ o'.k = o.k ∧ o'.T = o.T ∧ o'.e = o.e ∧ o.k ≠ .ro ∧ vsLe (look s.hp) (σf σ) live o'.xs o.xs
      | some none => o.xs = [] ∧ o.k = .arr ∧ 0 < o.e
      | none => False

theorem vsLe_length {hp : Heap} {σ : Nat → Option (Option Nat)} {live : List Nat} : ∀ {xs ys : List V}, vsLe hp σ live xs ys → ys.length = xs.length
  | [], ys, h => by simp only [vsLe] at h; simp [h]
  | x :: xs, ys, h => by
    simp only [vsLe] at h
    obtain ⟨y, r, rfl, _, h2⟩ := h
    simp [vsLe_length h2]

theorem own_le (L : LeCtx s s' σ live) {b : Nat} (h : Own s'.F.hp (η2 η σ) b) : ∃ i j o o', look σ i = some (some j) ∧ look s'.hp i = some o ∧ look s.hp j = some o' ∧ o'.k = o.k ∧ o.k ≠ .ro ∧ (η j).ownBlock = some b := by
  obtain ⟨i, o, ho, hk, hb⟩ := h
  have h1 := L.hp i o ho
  unfold η2 at hb
  cases hσ : look σ i with
  | none => rw [hσ] at h1; exact h1.elim
  | some x =>
    rw [hσ] at h1 hb
    cases x with
    | none => simp [Value.ownBlock] at hb
    | some j =>
      simp only at h1 hb
      obtain ⟨o', q1, q2, _⟩ := h1
      exact ⟨i, j, o, o', hσ, ho, q1, q2, hk, hb⟩

theorem own_of (L : LeCtx s s' σ live) {b : Nat} (h : Own s'.F.hp (η2 η σ) b) : Own s.F.hp η b := by
  obtain ⟨i, j, o, o', h1, h2, h3, h4, h5, h6⟩ := own_le L h
  exact ⟨j, o', h3, by rw [h4]; exact h5, h6⟩

theorem keepD (L : LeCtx s s' σ live) : Keeps { s.F.ctx E w η with data := true } { s'.F.ctx E w (η2 η σ) with data := true } :=
  ⟨Nat.le_refl _, fun _ _ _ => rfl, fun b _ hO => by
    rcases hO with hO | hO
    · exact .inl hO
    · exact .inr (own_of L hO), rfl, by simp, by simp⟩

theorem vLe_plain (L : LeCtx s s' σ live) (x y : V) (v : Value) (h : x = y ∧ x.pure) (hx : RV (s.F.ctx E w η) x v) : RV (s'.F.ctx E w (η2 η σ)) y v := by
  obtain ⟨rfl, hp⟩ := h
  exact RV_data (c := s'.F.ctx E w (η2 η σ)) _ _ (RV_keep (keepD L) _ _ (RV_pure x v hp hx))

theorem vLe_nil_obj (L : LeCtx s s' σ live) (id n : Nat) (v : Value) (h : vLe (look s.hp) (σf σ) live (.nilS) (.obj id n)) (hx : RV (s.F.ctx E w η) (.nilS) v) : RV (s'.F.ctx E w (η2 η σ)) (.obj id n) v := by
  simp only [vLe] at h
  obtain ⟨rfl, h⟩ := h
  simp only [RV] at hx ⊢
  have h' : look σ id = some none := h
  have hlt := ((renOk_inj L.ren).1 id _ h').1
  refine ⟨⟨none, 0, 0, hx⟩, rfl, .inl hlt, ?_⟩
  show match look s'.hp id with | some o => _ | none => True
  cases ho : look s'.hp id with
  | none => trivial
  | some o =>
    exact ⟨Nat.zero_le _, fun _ => by rw [hx]; simp [FSt.ctx, η2, h']⟩

theorem vLe_nil_sl (e : Nat) (ys : List V) (v : Value) (h : vLe (look s.hp) (σf σ) live (.nilS) (.sl e ys)) (hx : RV (s.F.ctx E w η) (.nilS) v) : RV (s'.F.ctx E w (η2 η σ)) (.sl e ys) v := by
  simp only [vLe] at h
  subst h
  simp only [RV] at hx ⊢
  exact ⟨none, 0, [], by simpa using hx, by simp, by simp, by simp [RVl], by simp, by simp [flat], .inl trivial⟩

theorem vLe_obj_obj (L : LeCtx s s' σ live) (id n id' n' : Nat) (v : Value) (h : vLe (look s.hp) (σf σ) live (.obj id n) (.obj id' n')) (hx : RV (s.F.ctx E w η) (.obj id n) v) : RV (s'.F.ctx E w (η2 η σ)) (.obj id' n') v := by
  simp only [vLe] at h
  obtain ⟨rfl, h⟩ := h
  have h' : look σ id' = some (some id) := h
  have hlt := ((renOk_inj L.ren).1 id' _ h').1
  simp only [RV] at hx ⊢
  obtain ⟨hz, hd, hk, hx⟩ := hx
  refine ⟨hz, rfl, .inl hlt, ?_⟩
  show match look s'.hp id' with | some o => _ | none => True
  cases ho : look s'.hp id' with
  | none => trivial
  | some o =>
    have h1 := L.hp id' o ho
    rw [h'] at h1
    obtain ⟨o', q1, _, _, _, _, q5⟩ := h1
    have hl := vsLe_length q5
    have hx' : match look s.hp id with | some o => n ≤ o.xs.length ∧ (n = o.xs.length → v = η id) | none => True := hx
    rw [q1] at hx'
    exact ⟨by rw [hl]; exact hx'.1, fun hn => by
      have := hx'.2 (by rw [← hl]; exact hn)
      simpa [FSt.ctx, η2, h'] using this⟩

theorem vLe_obj_sl (hr : Rel E s.F a w η) (L : LeCtx s s' σ live) (id n e : Nat) (ys : List V) (v : Value) (h : vLe (look s.hp) (σf σ) live (.obj id n) (.sl e ys)) (hx : RV (s.F.ctx E w η) (.obj id n) v) : RV (s'.F.ctx E w (η2 η σ)) (.sl e ys) v := by
  simp only [vLe] at h
  obtain ⟨ob, hid, hn, rfl, rfl, hp, hnl⟩ := h
  obtain ⟨hpos, hkn, hlen, us, r1, r2, r3, r4⟩ := laid_row hr (id := id) (ob := ob) hid
  have hx0 := hx
  simp only [RV] at hx ⊢
  obtain ⟨_, _, _, hx⟩ := hx
  have hx' : match look s.hp id with | some o => n ≤ o.xs.length ∧ (n = o.xs.length → v = η id) | none => True := hx
  rw [hid] at hx'
  have hη := hx'.2 hn
  have r1' := RVl_keep (keepD (E := E) (w := w) (η := η) L) _ _ (RVl_pure _ _ hp r1)
  rcases r4.2 with ⟨h3, h4⟩ | ⟨g, cp, cur, h3, _, hg, hnc, _⟩
  · have hxs : ob.xs = [] := List.eq_nil_of_length_eq_zero h4
    exact ⟨none, 0, us, by rw [hη, h3, hxs]; rfl, by simp [hxs], by simp [hxs], r1', r2, r3, .inl hxs⟩
  · have hbid : (η id).ownBlock = some g := by rw [h3]; rfl
    refine ⟨some ⟨g, 0, none⟩, cp, us, by rw [hη, h3], hnc, hlen, r1', r2, r3, .inr ⟨g, 0, rfl, fun hO => ?_, (Array.getElem?_eq_some_iff.1 hg).1, row_range r4 hbid⟩⟩
    by_cases hro : ob.k = .ro
    · have hno := (hr.laid.obj id ob hid).ro hro g hbid
      rcases hO with hO | hO
      · exact hno (.inl hO)
      · exact hno (.inr (own_of L hO))
    · rcases hO with hO | hO
      · have := (hr.laid.obj id ob hid)
        have hf := hr.fresh g ⟨id, ob, hid, hro, hbid⟩
        have hb := E.hb g hO
        rcases hf with hf | hf
        · exact hb.2 hf
        · omega
      · obtain ⟨i, j, o, o', q1, q2, q3, q4, q5, q6⟩ := own_le L hO
        have : id = j := hr.laid.inj id j ob o' g hid q3 hro (by rw [q4]; exact q5) hbid q6
        subst this
        exact hnl (((renOk_inj L.ren).1 i _ q1).2 _ rfl)

theorem vLe_ptr_ptr (L : LeCtx s s' σ live) (id n i o id' n' i' o' : Nat) (v : Value) (h : vLe (look s.hp) (σf σ) live (.ptr id n i o) (.ptr id' n' i' o')) (hx : RV (s.F.ctx E w η) (.ptr id n i o) v) : RV (s'.F.ctx E w (η2 η σ)) (.ptr id' n' i' o') v := by
  simp only [vLe] at h
  obtain ⟨rfl, rfl, rfl, h⟩ := h
  have h' : look σ id' = some (some id) := h
  have hlt := ((renOk_inj L.ren).1 id' _ h').1
  simp only [RV] at hx ⊢
  obtain ⟨hz, hd, hk, hx⟩ := hx
  refine ⟨hz, rfl, .inl hlt, ?_⟩
  show match look s'.hp id' with | some o => _ | none => True
  cases ho : look s'.hp id' with
  | none => trivial
  | some ob =>
    have h1 := L.hp id' ob ho
    rw [h'] at h1
    obtain ⟨ob', q1, _, _, q4, _, q5⟩ := h1
    have hl := vsLe_length q5
    have hx' : match look s.hp id with | some ob => n ≤ ob.xs.length ∧ (n = ob.xs.length → ∃ b, (η id).ownBlock = some b ∧ v = .pointer (some ⟨b, i * ob.e + o, none⟩)) | none => True := hx
    rw [q1] at hx'
    exact ⟨by rw [hl]; exact hx'.1, fun hn => by
      obtain ⟨b, hb, hv⟩ := hx'.2 (by rw [← hl]; exact hn)
      exact ⟨b, by simpa [FSt.ctx, η2, h'] using hb, by rw [hv, q4]⟩⟩

theorem RV_bot {c : Ctx} (hc : c.data = false) {v : Value} : RV c .bot v := by simp only [RV]; exact hc

mutual
theorem vLe_sound (hr : Rel E s.F a w η) (L : LeCtx s s' σ live) : ∀ (x y : V) (v : Value), vLe (look s.hp) (σf σ) live x y → RV (s.F.ctx E w η) x v → RV (s'.F.ctx E w (η2 η σ)) y v
  | .nilS, y, v, h, hx => by
    cases y with
    | bot => exact RV_bot rfl
    | obj id n => exact vLe_nil_obj L id n v h hx
    | sl e ys => exact vLe_nil_sl e ys v h hx
    | _ => exact vLe_plain L _ _ v (by simpa only [vLe] using h) hx
  | .obj id n, y, v, h, hx => by
    cases y with
    | bot => exact RV_bot rfl
    | obj id' n' => exact vLe_obj_obj L id n id' n' v h hx
    | sl e ys => exact vLe_obj_sl hr L id n e ys v h hx
    | _ => exact vLe_plain L _ _ v (by simpa only [vLe] using h) hx
  | .ptr id n i o, y, v, h, hx => by
    cases y with
    | bot => exact RV_bot rfl
    | ptr id' n' i' o' => exact vLe_ptr_ptr L id n i o id' n' i' o' v h hx
    | _ => exact vLe_plain L _ _ v (by simpa only [vLe] using h) hx
  | .agg xs, y, v, h, hx => by
    cases y with
    | bot => exact RV_bot rfl
    | agg ys =>
      simp only [vLe] at h
      simp only [RV] at hx ⊢
      obtain ⟨cv, hv, h1, h2⟩ := hx
      exact ⟨cv, hv, vsLe_sound hr L xs ys _ h h1, h2⟩
    | _ => exact vLe_plain L _ _ v (by simpa only [vLe] using h) hx
  | .tup xs, y, v, h, hx => by
    cases y with
    | bot => exact RV_bot rfl
    | tup ys =>
      simp only [vLe] at h
      simp only [RV] at hx ⊢
      obtain ⟨cv, hv, h1⟩ := hx
      exact ⟨cv, hv, vsLe_sound hr L xs ys _ h h1⟩
    | _ => exact vLe_plain L _ _ v (by simpa only [vLe] using h) hx
  | .func f p q, y, v, h, hx => by
    cases y with
    | bot => exact RV_bot rfl
    | func g c d =>
      simp only [vLe] at h
      obtain ⟨rfl, h1, h2⟩ := h
      simp only [RV] at hx ⊢
      obtain ⟨f1, c1, hv, g1, g2⟩ := hx
      exact ⟨f1, c1, hv, vsLe_sound hr L p c _ h1 g1, vsLe_sound hr L q d _ h2 g2⟩
    | _ => exact vLe_plain L _ _ v (by simpa only [vLe] using h) hx
  | .bot, y, v, h, hx => by
    cases y with
    | bot => exact RV_bot rfl
    | _ => exact vLe_plain L _ _ v (by simpa only [vLe] using h) hx
  | .bool _, y, v, h, hx => by
    cases y with
    | bot => exact RV_bot rfl
    | _ => exact vLe_plain L _ _ v (by simpa only [vLe] using h) hx
  | .int _ _, y, v, h, hx => by
    cases y with
    | bot => exact RV_bot rfl
    | _ => exact vLe_plain L _ _ v (by simpa only [vLe] using h) hx
  | .str _, y, v, h, hx => by
    cases y with
    | bot => exact RV_bot rfl
    | _ => exact vLe_plain L _ _ v (by simpa only [vLe] using h) hx
  | .sl _ _, y, v, h, hx => by
    cases y with
    | bot => exact RV_bot rfl
    | _ => exact vLe_plain L _ _ v (by simpa only [vLe] using h) hx
  | .tptr _ _ _ _, y, v, h, hx => by
    cases y with
    | bot => exact RV_bot rfl
    | _ => exact vLe_plain L _ _ v (by simpa only [vLe] using h) hx
  | .nilP, y, v, h, hx => by
    cases y with
    | bot => exact RV_bot rfl
    | _ => exact vLe_plain L _ _ v (by simpa only [vLe] using h) hx
  | .nilF, y, v, h, hx => by
    cases y with
    | bot => exact RV_bot rfl
    | _ => exact vLe_plain L _ _ v (by simpa only [vLe] using h) hx
  | .opt _ _, y, v, h, hx => by
    cases y with
    | bot => exact RV_bot rfl
    | _ => exact vLe_plain L _ _ v (by simpa only [vLe] using h) hx
theorem vsLe_sound (hr : Rel E s.F a w η) (L : LeCtx s s' σ live) : ∀ (xs ys : List V) (us : List Value), vsLe (look s.hp) (σf σ) live xs ys → RVl (s.F.ctx E w η) xs us → RVl (s'.F.ctx E w (η2 η σ)) ys us
  | [], ys, us, h, hx => by
    simp only [vsLe] at h
    subst h
    simpa only [RVl] using hx
  | x :: xs, ys, us, h, hx => by
    simp only [vsLe] at h
    obtain ⟨y, r, rfl, h1, h2⟩ := h
    simp only [RVl] at hx ⊢
    obtain ⟨u, q, hu, g1, g2⟩ := hx
    exact ⟨u, q, hu, vLe_sound hr L x y u h1 g1, vsLe_sound hr L xs r q h2 g2⟩
end

theorem le_sound (hr : Rel E s.F a w η) (L : LeCtx s s' σ live) (hN : s'.N = s.N) (hsl : ∀ t, vLe (look s.hp) (σf σ) live (s.get t) (s'.get t)) : Rel E s'.F a w (η2 η σ) := by
  refine ⟨fun t => vLe_sound hr L _ _ _ (hsl t) (hr.slots t), ⟨fun i o ho => ?_, fun i i' o o' b ho ho' hk hk' hb hb' => ?_⟩, hr.since, fun b hb => hr.fresh b (own_of L hb), by rw [show s'.F.N = s'.N from rfl, hN]; exact hr.tmps, hr.defers⟩
  · have h1 := L.hp i o ho
    cases hσ : look σ i with
    | none => rw [hσ] at h1; exact h1.elim
    | some x =>
      rw [hσ] at h1
      have hlt := ((renOk_inj L.ren).1 i _ hσ).1
      cases x with
      | none =>
        obtain ⟨hx, hk, he⟩ := h1
        have hη : (s'.F.ctx E w (η2 η σ)).η i = .slice none 0 0 := by simp [FSt.ctx, η2, hσ]
        refine ⟨he, .inl hlt, by simp [hx], ⟨[], by rw [hx]; simp [RVl], by simp, by simp [flat], ?_⟩, (fun h => by rw [hk] at h; cases h), (fun _ b hb => ?_), (fun h => by rw [hk] at h; cases h)⟩
        · rw [hη, hx]; exact World.ownsRow_nil _ _ _ _
        · rw [hη] at hb; simp [Value.ownBlock] at hb
      | some j =>
        obtain ⟨o', q1, q2, q3, q4, q5, q6⟩ := h1
        have hη : (s'.F.ctx E w (η2 η σ)).η i = η j := by simp [FSt.ctx, η2, hσ]
        obtain ⟨p, l, n, ⟨us, r1, r2, r3, r4⟩, hro, hown, hbox⟩ := hr.laid.obj j o' q1
        have hl := vsLe_length q6
        have hk' : o'.k ≠ .ro := by rw [q2]; exact q5
        rw [show decide (o'.k = Kind.ro) = false by simpa using hk'] at r1
        refine ⟨by rw [← q4]; exact p, .inl hlt, by rw [hl]; exact n, ⟨us, ?_, by rw [← q4]; exact r2, r3, ?_⟩, fun h => absurd h q5, fun _ b hb => ?_, fun h => ?_⟩
        · rw [show decide (o.k = Kind.ro) = false by simpa using q5]
          exact vsLe_sound hr L _ _ us q6 r1
        · rw [hη, hl, ← q3, ← q4]; exact r4
        · rw [hη] at hb
          exact .inr ⟨i, o, ho, q5, by simpa [η2, hσ] using hb⟩
        · rw [hη]
          exact hbox (by rw [q2]; exact h)
  · have h1 := own_le (η := η) L (b := b) ⟨i, o, ho, hk, hb⟩
    have key : ∀ i o, look s'.hp i = some o → (η2 η σ i).ownBlock = some b → ∃ j o', look σ i = some (some j) ∧ look s.hp j = some o' ∧ o'.k = o.k ∧ (η j).ownBlock = some b := fun i o ho hb => by
      have h1 := L.hp i o ho
      unfold η2 at hb
      cases hσ : look σ i with
      | none => rw [hσ] at h1; exact h1.elim
      | some x =>
        rw [hσ] at h1 hb
        cases x with
        | none => simp [Value.ownBlock] at hb
        | some j =>
          obtain ⟨o', q1, q2, _⟩ := h1
          exact ⟨j, o', rfl, q1, q2, hb⟩
    obtain ⟨j, q, a1, a2, a3, a4⟩ := key i o ho hb
    obtain ⟨j', q', b1, b2, b3, b4⟩ := key i' o' ho' hb'
    have : j = j' := hr.laid.inj j j' q q' b a2 b2 (by rw [a3]; exact hk) (by rw [b3]; exact hk') a4 b4
    subst this
    exact (renOk_inj L.ren).2 i i' j a1 b1

theorem slLe_look : ∀ {l : List (Nat × V)}, slLe s σ live l → ∀ t, vLe (look s.hp) (σf σ) live (s.get t) ((look l t).getD .bot)
  | [], _, t => by simp only [look, Option.getD_none]; cases s.get t <;> simp [vLe]
  | (k, y) :: r, h, t => by
    simp only [slLe] at h
    simp only [look]
    split
    · rename_i ht; subst ht; exact h.1
    · exact slLe_look h.2 t

theorem hpLe_look : ∀ {l : List (Nat × Obj)}, hpLe s σ live l → ∀ i o, look l i = some o → match look σ i with
      | some (some j) => ∃ o', look s.hp j = some o' ∧ o'.k = o.k ∧ o'.T = o.T ∧ o'.e = o.e ∧ o.k ≠ .ro ∧ vsLe (look s.hp) (σf σ) live o'.xs o.xs
      | some none => o.xs = [] ∧ o.k = .arr ∧ 0 < o.e
      | none => False
  | [], _, i, o, h => by simp [look] at h
  | (k, y) :: r, h, i, o, ho => by
    simp only [hpLe] at h
    simp only [look] at ho
    split at ho
    · rename_i hi; cases ho; subst hi; exact h.1
    · exact hpLe_look h.2 i o ho

/-- A state is weakened. σ says what the new numbers stand for (none: a row that is still to be made), live: the old numbers that stay. -/
theorem Le.mk (σ : Ren) (live : List Nat) (hN : s'.N = s.N) (hren : renOk s'.nx live σ) (hhp : hpLe s σ live s'.hp) (hsl : slLe s σ live s'.sl) : Le s s' := by
  intro E a w η hr
  exact ⟨η2 η σ, le_sound hr ⟨hren, hpLe_look hhp⟩ hN (slLe_look hsl)⟩

theorem Le.refl (s : St) : Le s s := fun _ _ _ η hr => ⟨η, hr⟩
end

/-! ## loops -/

/-- What a round ends in. -/
def RoundK {ι : Type} (F : ι → St) (ok : ι → Prop) (m : ι → Nat) (i : ι) (Q : Exit → St → Prop) (e : Exit) (s : St) : Prop :=
  match e with
  | .normal => ∃ j, ok j ∧ m j < m i ∧ Le s (F j)
  | e => Q e s

theorem least (p : Nat → Prop) (h : ∃ n, p n) : ∃ n, p n ∧ ∀ k, p k → n ≤ k := by
  obtain ⟨n, hn⟩ := h
  induction n using Nat.strongRecOn with
  | _ n ih =>
    by_cases h : ∃ k, k < n ∧ p k
    · obtain ⟨k, hk, hp⟩ := h
      exact ih k hk hp
    · exact ⟨n, hn, fun k hk => Nat.le_of_not_lt fun hl => h ⟨k, hl, hk⟩⟩

theorem aw_loop {P : Program} {E : Entry} {c : Code} {s : St} {Q : Exit → St → Prop} (hm : P.follows .mixedOrders = true) {ι : Type} (F : ι → St) (ok : ι → Prop) (m : ι → Nat) (i0 : ι) (h0 : ok i0) (hle : Le s (F i0))
    (hstep : ∀ i, ok i → aev P E c (F i) (RoundK F ok m i Q)) : AW P E (.loop c) s Q := by
  intro a w η hr
  obtain ⟨η', hr'⟩ := hle E a w η hr
  let S : Act → World → Nat → Prop := fun a w n => ∃ i η, ok i ∧ m i = n ∧ Rel E (F i).F a w η
  let μ : Act → World → Nat := fun a w => Classical.epsilon (fun n => S a w n ∧ ∀ k, S a w k → n ≤ k)
  have hμ : ∀ a w, (∃ n, S a w n) → S a w (μ a w) ∧ ∀ k, S a w k → μ a w ≤ k := fun a w h => Classical.epsilon_spec (least _ h)
  refine wp_loop (fun a w => ∃ n, S a w n) μ ⟨_, i0, η', h0, rfl, hr'⟩ fun a w hI => ?_
  obtain ⟨⟨i, ηi, hok, hmi, hri⟩, hmin⟩ := hμ a w hI
  refine wp_mono (aev_sound hm c (F i) _ (hstep i hok) a w ηi hri) ?_
  rintro e a' w' ⟨s', η2, hq, hr2⟩
  cases e with
  | normal =>
    obtain ⟨j, hj, hlt, hLe⟩ := hq
    obtain ⟨η3, hr3⟩ := hLe E a' w' η2 hr2
    have hS : S a' w' (m j) := ⟨j, η3, hj, rfl, hr3⟩
    refine ⟨⟨_, hS⟩, ?_⟩
    have := (hμ a' w' ⟨_, hS⟩).2 _ hS
    omega
  | _ => exact ⟨s', η2, hq, hr2⟩
end Go.AM
