/- The abstract machine over the model: abstract values, what a world holds of them, and how that is kept when the world grows. It holds over any program. -/
import Derived.WalkKit
import Derived.Deep.MidRow
import Derived.Still
namespace Go.AM
open Go.RowKit

inductive V where
  | bot
  | bool (b : Bool)
  | int (k : IntKind) (n : Int)
  | str (s : ByteArray)
  | nilS
  | sl (e : Nat) (xs : List V)
  | obj (id n : Nat)
  | ptr (id n i o : Nat)
  | tptr (e : Nat) (xs : List V) (i o : Nat)
  | nilP
  | func (fn : Fn) (first caps : List V)
  | nilF
  | agg (cs : List V)
  | tup (vs : List V)
  | opt (g : Bool) (x : V)
  deriving Inhabited

/-- What stands in a block: a variable ('box'), a row that the call owns and may grow ('arr'), a row that nobody writes any more ('ro'). -/
inductive Kind where
  | box | arr | ro
  deriving DecidableEq

structure Obj where
  k : Kind
  T : TypeId
  e : Nat
  xs : List V

abbrev Heap := Nat → Option Obj

def flat (us : List Value) : List Value := us.flatMap fun u => u.cells.toList

structure Ctx where
  w : World
  O : Nat → Prop
  hp : Heap
  η : Nat → Value
  kn : Nat → Prop
  data : Bool

mutual
def RV (c : Ctx) : V → Value → Prop
  | .bot, _ => c.data = false
  | .bool b, v => v = .bool b
  | .int k n, v => v = .int k n ∧ k.has n
  | .str s, v => v = .string s
  | .nilS, v => v = .slice none 0 0
  | .sl e xs, v => ∃ a cap us, v = .slice a xs.length cap ∧ xs.length ≤ cap ∧ xs.length ≤ 140737488355328 ∧ RVl { c with data := true } xs us ∧ (∀ u ∈ us, u.cells.size = e) ∧ (∀ x ∈ flat us, x.oneCell' = true) ∧
      (xs = [] ∨ ∃ b off, a = some ⟨b, off, none⟩ ∧ ¬ c.O b ∧ b < c.w.heap.size ∧ c.w.rangeAt b off (flat us))
  | .obj id n, v => (∃ a m cap, v = .slice a m cap) ∧ c.data = false ∧ c.kn id ∧ match c.hp id with
      | some o => n ≤ o.xs.length ∧ (n = o.xs.length → v = c.η id)
      | none => True
  | .ptr id n i o, v => (∃ a, v = .pointer a) ∧ c.data = false ∧ c.kn id ∧ match c.hp id with
      | some ob => n ≤ ob.xs.length ∧ (n = ob.xs.length → ∃ b, (c.η id).ownBlock = some b ∧ v = .pointer (some ⟨b, i * ob.e + o, none⟩))
      | none => True
  | .tptr e xs i o, v => ∃ b off us, RVl { c with data := true } xs us ∧ (∀ u ∈ us, u.cells.size = e) ∧ ¬ c.O b ∧ b < c.w.heap.size ∧ c.w.rangeAt b off (flat us) ∧ v = .pointer (some ⟨b, off + (i * e + o), none⟩)
  | .nilP, v => v = .pointer none
  | .func fn first caps, v => ∃ f1 c1, v = .func fn f1 c1 ∧ RVl c first f1.toList ∧ RVl c caps c1.toList
  | .nilF, v => v = .nilFunc
  | .agg cs, v => ∃ cv, v = .agg cv ∧ RVl c cs cv.toList ∧ ∀ u ∈ cv.toList, u.oneCell' = true
  | .tup vs, v => ∃ cv, v = .tuple cv ∧ RVl c vs cv.toList
  | .opt g x, v => c.data = false ∧ (g = true → RV c x v)
def RVl (c : Ctx) : List V → List Value → Prop
  | [], us => us = []
  | x :: xs, us => ∃ u r, us = u :: r ∧ RV c x u ∧ RVl c xs r
end

theorem RVl_length {c : Ctx} : ∀ {xs us}, RVl c xs us → us.length = xs.length
  | [], us, h => by simp only [RVl] at h; simp [h]
  | x :: xs, us, h => by
    simp only [RVl] at h
    obtain ⟨u, r, rfl, _, hr⟩ := h
    simp [RVl_length hr]

theorem RVl_get {c : Ctx} : ∀ {xs us}, RVl c xs us → ∀ (i : Nat) x, xs[i]? = some x → ∃ u, us[i]? = some u ∧ RV c x u
  | [], us, h, i, x, hx => by simp at hx
  | y :: xs, us, h, i, x, hx => by
    simp only [RVl] at h
    obtain ⟨u, r, rfl, hu, hr⟩ := h
    cases i with
    | zero => simp at hx; subst hx; exact ⟨u, by simp, hu⟩
    | succ i => simp at hx; obtain ⟨v, hv, hx'⟩ := RVl_get hr i x hx; exact ⟨v, by simpa using hv, hx'⟩

theorem RVl_of_get {c : Ctx} : ∀ {xs us}, us.length = xs.length → (∀ (i : Nat) x u, xs[i]? = some x → us[i]? = some u → RV c x u) → RVl c xs us
  | [], us, hl, _ => by simp only [RVl]; simpa using hl
  | x :: xs, [], hl, _ => by simp at hl
  | x :: xs, u :: us, hl, h => by
    simp only [RVl]
    exact ⟨u, us, rfl, h 0 x u (by simp) (by simp), RVl_of_get (by simpa using hl) (fun i y v hy hv => h (i + 1) y v (by simpa using hy) (by simpa using hv))⟩

theorem RVl_append {c : Ctx} {xs ys us vs} (h : RVl c xs us) (h' : RVl c ys vs) : RVl c (xs ++ ys) (us ++ vs) := by
  have l1 := RVl_length h
  have l2 := RVl_length h'
  refine RVl_of_get (by simp [l1, l2]) fun i x u hx hu => ?_
  by_cases hi : i < xs.length
  · rw [List.getElem?_append_left hi] at hx
    rw [List.getElem?_append_left (by omega)] at hu
    obtain ⟨v, hv, r⟩ := RVl_get h i x hx
    rw [hu] at hv; cases hv; exact r
  · rw [List.getElem?_append_right (by omega)] at hx
    rw [List.getElem?_append_right (by omega), l1] at hu
    obtain ⟨v, hv, r⟩ := RVl_get h' _ x hx
    rw [hu] at hv; cases hv; exact r

theorem RVl_set {c : Ctx} {xs us} (h : RVl c xs us) {i : Nat} {x u} (hx : RV c x u) : RVl c (xs.set i x) (us.set i u) := by
  have l1 := RVl_length h
  refine RVl_of_get (by simp [l1]) fun j y v hy hv => ?_
  rw [List.getElem?_set] at hy hv
  by_cases hij : i = j
  · subst hij
    simp only [if_true, l1] at hy hv
    by_cases hl : i < xs.length
    · simp [hl] at hy hv; subst hy; subst hv; exact hx
    · simp [hl] at hy
  · simp only [hij, if_false] at hy hv
    obtain ⟨z, hz, r⟩ := RVl_get h j y hy
    rw [hv] at hz; cases hz; exact r

theorem RVl_take {c : Ctx} {xs us} (n : Nat) (h : RVl c xs us) : RVl c (xs.take n) (us.take n) := by
  have l1 := RVl_length h
  refine RVl_of_get (by simp [l1]) fun j y v hy hv => ?_
  rw [List.getElem?_take] at hy hv
  split at hy
  · obtain ⟨z, hz, r⟩ := RVl_get h j y hy
    simp_all
  · simp at hy

theorem RVl_drop {c : Ctx} {xs us} (n : Nat) (h : RVl c xs us) : RVl c (xs.drop n) (us.drop n) := by
  have l1 := RVl_length h
  refine RVl_of_get (by simp [l1]) fun j y v hy hv => ?_
  rw [List.getElem?_drop] at hy hv
  obtain ⟨z, hz, r⟩ := RVl_get h _ y hy
  rw [hv] at hz; cases hz; exact r

/-! ## what is kept when the world turns -/

/-- How what stands under a number may turn: it may go; it may grow (what spoke of the shorter one says nothing any more); it may be written. -/
def EvoAt (c c' : Ctx) (id : Nat) : Prop :=
  match c.hp id with
  | none => c'.hp id = none
  | some o => match c'.hp id with
    | none => True
    | some o' => o'.e = o.e ∧ o.xs.length ≤ o'.xs.length ∧ (o.xs.length = o'.xs.length → c'.η id = c.η id)

/-- Every block that is not in O is as it was; O' holds nothing of the old world but what O held. -/
structure Keeps (c c' : Ctx) : Prop where
  size : c.w.heap.size ≤ c'.w.heap.size
  block : ∀ b, b < c.w.heap.size → ¬ c.O b → c'.w.heap[b]? = c.w.heap[b]?
  own : ∀ b, b < c.w.heap.size → c'.O b → c.O b
  data : c'.data = c.data
  kn : c.data = false → ∀ id, c.kn id → c'.kn id
  evo : c.data = false → ∀ id, c.kn id → EvoAt c c' id

theorem rangeAt_keep {w w' : World} {b off : Nat} {cs : List Value} (h : w.rangeAt b off cs) (hb : w'.heap[b]? = w.heap[b]?) : w'.rangeAt b off cs :=
  fun j v hv => by rw [World.cell?_of_block (w := w) (a := ⟨b, off + j, none⟩) hb]; exact h j v hv

theorem Keeps.asData {c c' : Ctx} (h : Keeps c c') : Keeps { c with data := true } { c' with data := true } :=
  ⟨h.size, h.block, h.own, rfl, by simp, by simp⟩

theorem Keeps.withData {c c' : Ctx} (h : Keeps c c') (hd : c.data = false) (d : Bool) : Keeps { c with data := d } { c' with data := d } :=
  ⟨h.size, h.block, h.own, rfl, fun _ => h.kn hd, fun _ => h.evo hd⟩

mutual
theorem RV_keep {c c' : Ctx} (h : Keeps c c') : ∀ (x : V) (v : Value), RV c x v → RV c' x v
  | .bot, v, hx => by simp only [RV] at hx ⊢; rw [h.data]; exact hx
  | .bool b, v, hx => by simpa only [RV] using hx
  | .int k n, v, hx => by simpa only [RV] using hx
  | .str s, v, hx => by simpa only [RV] using hx
  | .nilS, v, hx => by simpa only [RV] using hx
  | .sl e xs, v, hx => by
    simp only [RV] at hx ⊢
    obtain ⟨a, cap, us, hv, hcp, hl, hus, hsz, hone, hm⟩ := hx
    refine ⟨a, cap, us, hv, hcp, hl, RVl_keep h.asData _ _ hus, hsz, hone, ?_⟩
    rcases hm with hm | ⟨b, off, ha, hO, hb, hr⟩
    · exact .inl hm
    · exact .inr ⟨b, off, ha, fun hO' => hO (h.own b hb hO'), Nat.lt_of_lt_of_le hb h.size, rangeAt_keep hr (h.block b hb hO)⟩
  | .obj id n, v, hx => by
    simp only [RV] at hx ⊢
    obtain ⟨hz, hd, hn, hx⟩ := hx
    refine ⟨hz, h.data.trans hd, h.kn hd id hn, ?_⟩
    have he := h.evo hd id hn
    unfold EvoAt at he
    cases h1 : c.hp id with
    | none => rw [h1] at he; simp only at he; rw [he]; trivial
    | some o =>
      rw [h1] at he hx
      cases h2 : c'.hp id with
      | none => trivial
      | some o' =>
        rw [h2] at he
        obtain ⟨e1, e2, e3⟩ := he
        refine ⟨by omega, fun hn' => ?_⟩
        rw [e3 (by omega)]
        exact hx.2 (by omega)
  | .ptr id n i o, v, hx => by
    simp only [RV] at hx ⊢
    obtain ⟨hz, hd, hn, hx⟩ := hx
    refine ⟨hz, h.data.trans hd, h.kn hd id hn, ?_⟩
    have he := h.evo hd id hn
    unfold EvoAt at he
    cases h1 : c.hp id with
    | none => rw [h1] at he; simp only at he; rw [he]; trivial
    | some o =>
      rw [h1] at he hx
      cases h2 : c'.hp id with
      | none => trivial
      | some o' =>
        rw [h2] at he
        obtain ⟨e1, e2, e3⟩ := he
        refine ⟨by omega, fun hn' => ?_⟩
        rw [e3 (by omega), e1]
        exact hx.2 (by omega)
  | .tptr e xs i o, v, hx => by
    simp only [RV] at hx ⊢
    obtain ⟨b, off, us, hus, hsz, hO, hb, hr, hv⟩ := hx
    exact ⟨b, off, us, RVl_keep h.asData _ _ hus, hsz, fun hO' => hO (h.own b hb hO'), Nat.lt_of_lt_of_le hb h.size, rangeAt_keep hr (h.block b hb hO), hv⟩
  | .nilP, v, hx => by simpa only [RV] using hx
  | .func fn first caps, v, hx => by
    simp only [RV] at hx ⊢
    obtain ⟨f1, c1, hv, h1, h2⟩ := hx
    exact ⟨f1, c1, hv, RVl_keep h _ _ h1, RVl_keep h _ _ h2⟩
  | .nilF, v, hx => by simpa only [RV] using hx
  | .agg cs, v, hx => by
    simp only [RV] at hx ⊢
    obtain ⟨cv, hv, h1, h2⟩ := hx
    exact ⟨cv, hv, RVl_keep h _ _ h1, h2⟩
  | .tup vs, v, hx => by
    simp only [RV] at hx ⊢
    obtain ⟨cv, hv, h1⟩ := hx
    exact ⟨cv, hv, RVl_keep h _ _ h1⟩
  | .opt g x, v, hx => by
    simp only [RV] at hx ⊢
    exact ⟨h.data.trans hx.1, fun hg => RV_keep h x v (hx.2 hg)⟩
theorem RVl_keep {c c' : Ctx} (h : Keeps c c') : ∀ (xs : List V) (us : List Value), RVl c xs us → RVl c' xs us
  | [], us, hx => by simpa only [RVl] using hx
  | x :: xs, us, hx => by
    simp only [RVl] at hx ⊢
    obtain ⟨u, r, hu, h1, h2⟩ := hx
    exact ⟨u, r, hu, RV_keep h x u h1, RVl_keep h xs r h2⟩
end

/-! ## objects laid in the world -/

def Own (hp : Heap) (η : Nat → Value) (b : Nat) : Prop := ∃ id o, hp id = some o ∧ o.k ≠ .ro ∧ (η id).ownBlock = some b

structure LaidO (c : Ctx) (id : Nat) (o : Obj) : Prop where
  pos : 0 < o.e
  lt : c.kn id
  len : o.xs.length ≤ 140737488355328
  row : ∃ us, RVl { c with data := decide (o.k = .ro) } o.xs us ∧ (∀ u ∈ us, u.cells.size = o.e) ∧ (∀ x ∈ flat us, x.oneCell' = true) ∧ c.w.ownsRow 0 o.T o.e (c.η id) o.xs.length (flat us)
  ro : o.k = .ro → ∀ b, (c.η id).ownBlock = some b → ¬ c.O b
  own : o.k ≠ .ro → ∀ b, (c.η id).ownBlock = some b → c.O b
  box : o.k = .box → ∃ b, c.η id = .slice (some ⟨b, 0, none⟩) 1 1

structure Laid (c : Ctx) : Prop where
  obj : ∀ id o, c.hp id = some o → LaidO c id o
  inj : ∀ id id' o o' b, c.hp id = some o → c.hp id' = some o' → o.k ≠ .ro → o'.k ≠ .ro → (c.η id).ownBlock = some b → (c.η id').ownBlock = some b → id = id'

/-- Where a call began: its world, the blocks that it was handed as its own, the blocks that it must not lean on. -/
structure Entry where
  w0 : World
  own0 : Nat → Prop
  base : Nat → Prop
  hb : ∀ b, base b → b < w0.heap.size ∧ ¬ own0 b

structure FSt where
  sl : Nat → V
  hp : Heap
  kn : Nat → Prop
  N : Nat

def FSt.ctx (E : Entry) (s : FSt) (w : World) (η : Nat → Value) : Ctx := ⟨w, fun b => E.base b ∨ Own s.hp η b, s.hp, η, s.kn, false⟩

/-- The world has only grown since the entry, but for the blocks that were handed in. -/
structure Since (E : Entry) (w : World) : Prop where
  os : w.os = E.w0.os
  tape : w.tape = E.w0.tape
  output : w.output = E.w0.output
  size : E.w0.heap.size ≤ w.heap.size
  block : ∀ b, b < E.w0.heap.size → ¬ E.own0 b → w.heap[b]? = E.w0.heap[b]?

structure Rel (E : Entry) (s : FSt) (a : Act) (w : World) (η : Nat → Value) : Prop where
  slots : ∀ t, RV (s.ctx E w η) (s.sl t) (a.tmps.getD t undef)
  laid : Laid (s.ctx E w η)
  since : Since E w
  fresh : ∀ b, Own s.hp η b → E.own0 b ∨ E.w0.heap.size ≤ b
  tmps : a.tmps.size = s.N
  defers : a.defers = []

def FSt.put (s : FSt) (d : Option Tmp) (x : V) : FSt :=
  match d with
  | none => s
  | some d => if d < s.N then { s with sl := fun t => if t = d then x else s.sl t } else s

theorem Rel.put {E : Entry} {s : FSt} {a : Act} {w : World} {η : Nat → Value} (h : Rel E s a w η) (d : Option Tmp) {x : V} {v : Value} (hx : RV (s.ctx E w η) x v) :
    Rel E (s.put d x) (a.put d v) w η := by
  cases d with
  | none => exact h
  | some d =>
    unfold FSt.put
    by_cases hd : d < s.N
    · simp only [hd, if_true]
      refine ⟨fun t => ?_, h.laid, h.since, h.fresh, by simpa [Act.put] using h.tmps, h.defers⟩
      by_cases ht : t = d
      · subst ht
        have : (a.put (some t) v).tmps.getD t undef = v := by simp [Act.put, h.tmps, hd]
        rw [this]; simp only [if_true]; exact hx
      · have : (a.put (some d) v).tmps.getD t undef = a.tmps.getD t undef := by
          simp [Act.put, Array.getElem?_setIfInBounds_ne (Ne.symm ht)]
        rw [this]; simp only [ht, if_false]; exact h.slots t
    · simp only [hd, if_false]
      have : a.put (some d) v = a := by
        simp only [Act.put]
        have h2 : a.tmps.size ≤ d := by rw [h.tmps]; exact Nat.le_of_not_lt hd
        rw [Array.setIfInBounds_eq_of_size_le h2]
      rw [this]; exact h

/-- The world has grown, nothing of it has turned (a draw; blocks that nobody names). -/
theorem Rel.grow {E : Entry} {s : FSt} {a : Act} {w w' : World} {η : Nat → Value} (h : Rel E s a w η) (hg : w.grownBy w' none) : Rel E s a w' η := by
  have hk : ∀ b, b < w.heap.size → w'.heap[b]? = w.heap[b]? := fun b hb => hg.block b hb (by simp)
  have K : Keeps (s.ctx E w η) (s.ctx E w' η) := ⟨hg.size, fun b hb _ => hk b hb, fun b _ h => h, rfl, fun _ _ h => h, fun _ id _ => by
    unfold EvoAt
    cases h1 : s.hp id <;> simp [FSt.ctx, h1]⟩
  refine ⟨fun t => RV_keep K _ _ (h.slots t), ⟨fun id o ho => ?_, h.laid.inj⟩, ⟨hg.os.trans h.since.os, hg.tape.trans h.since.tape, hg.output.trans h.since.output, Nat.le_trans h.since.size hg.size, fun b hb hn => (hk b (Nat.lt_of_lt_of_le hb h.since.size)).trans (h.since.block b hb hn)⟩, h.fresh, h.tmps, h.defers⟩
  obtain ⟨p, l, n, ⟨us, r1, r2, r3, r4⟩, hro, hown, hbox⟩ := h.laid.obj id o ho
  refine ⟨p, l, n, ⟨us, RVl_keep (K.withData rfl _) _ _ r1, r2, r3, r4.kept hg (by cases h1 : (η id).ownBlock <;> simp [FSt.ctx, h1])⟩, hro, hown, hbox⟩

/-- ONE OBJECT IS LAID OR TURNS: under a fresh number, or under its own one; the world has grown but for the row that it had. -/
theorem Rel.lay {E : Entry} {s : FSt} {a : Act} {w w' : World} {η : Nat → Value} (h : Rel E s a w η) (id : Nat) (o' : Obj) (hdr : Value) (row : Option Nat)
    (hg : w.grownBy w' row)
    (hid : (¬ s.kn id ∧ row = none) ∨ ∃ o, s.hp id = some o ∧ o.k ≠ .ro ∧ row = (η id).ownBlock ∧ o'.e = o.e ∧ o.xs.length ≤ o'.xs.length ∧ (o.xs.length = o'.xs.length → hdr = η id))
    (hk : o'.k ≠ .ro) (hpos : 0 < o'.e) (hlen : o'.xs.length ≤ 140737488355328)
    (hdrb : ∀ b, hdr.ownBlock = some b → w.heap.size ≤ b ∨ (row = some b))
    (hbox : o'.k = .box → ∃ b, hdr = .slice (some ⟨b, 0, none⟩) 1 1)
    (us : List Value) (hus : RVl (s.ctx E w η) o'.xs us) (hsz : ∀ u ∈ us, u.cells.size = o'.e) (hone : ∀ x ∈ flat us, x.oneCell' = true)
    (hrow : w'.ownsRow 0 o'.T o'.e hdr o'.xs.length (flat us)) :
    Rel E { s with hp := fun i => if i = id then some o' else s.hp i, kn := fun i => i = id ∨ s.kn i } a w' (fun i => if i = id then hdr else η i) := by
  -- the numbers' own blocks lie in the world
  have hlt_w : ∀ i o b, s.hp i = some o → (η i).ownBlock = some b → b < w.heap.size := fun i o b ho hb => by
    obtain ⟨us, _, _, _, r4⟩ := (h.laid.obj i o ho).row
    exact (r4.lt b hb).2
  have hrowid : ∀ b, row = some b → ∃ o, s.hp id = some o ∧ o.k ≠ .ro ∧ (η id).ownBlock = some b := fun b hb => by
    rcases hid with ⟨_, hr⟩ | ⟨o, ho, hk, hr, _⟩
    · rw [hr] at hb; cases hb
    · exact ⟨o, ho, hk, by rw [← hr]; exact hb⟩
  -- own blocks of the new state
  have hown : ∀ b, Own (fun i => if i = id then some o' else s.hp i) (fun i => if i = id then hdr else η i) b → (hdr.ownBlock = some b) ∨ (∃ i o, i ≠ id ∧ s.hp i = some o ∧ o.k ≠ .ro ∧ (η i).ownBlock = some b) := by
    rintro b ⟨i, o, ho, hko, hb⟩
    by_cases hi : i = id
    · subst hi; simp at hb; exact .inl hb
    · simp [hi] at ho hb; exact .inr ⟨i, o, hi, ho, hko, hb⟩
  have hown' : ∀ b, b < w.heap.size → Own (fun i => if i = id then some o' else s.hp i) (fun i => if i = id then hdr else η i) b → Own s.hp η b := fun b hb ho => by
    rcases hown b ho with hd | ⟨i, o, _, ho, hko, hbi⟩
    · rcases hdrb b hd with h1 | h1
      · omega
      · obtain ⟨o, ho, hko, hbi⟩ := hrowid b h1
        exact ⟨id, o, ho, hko, hbi⟩
    · exact ⟨i, o, ho, hko, hbi⟩
  have hblk : ∀ b, b < w.heap.size → ¬ Own s.hp η b → w'.heap[b]? = w.heap[b]? := fun b hb hO => hg.block b hb (fun e => by
    obtain ⟨o, ho, hko, hbi⟩ := hrowid b e.symm
    exact hO ⟨id, o, ho, hko, hbi⟩)
  have K : Keeps (s.ctx E w η) (FSt.ctx E { s with hp := fun i => if i = id then some o' else s.hp i, kn := fun i => i = id ∨ s.kn i } w' (fun i => if i = id then hdr else η i)) := by
    refine ⟨hg.size, fun b hb hO => hblk b hb (fun h => hO (.inr h)), fun b hb ho => ?_, rfl, fun _ _ h => .inr h, fun _ i hi => ?_⟩
    · rcases ho with ho | ho
      · exact .inl ho
      · exact .inr (hown' b hb ho)
    · unfold EvoAt
      simp only [FSt.ctx] at hi ⊢
      by_cases hii : i = id
      · subst hii
        rcases hid with ⟨h1, _⟩ | ⟨o, ho, hko, _, h1, h2, h3⟩
        · exact absurd hi h1
        · simp only [ho, if_true]; exact ⟨h1, h2, h3⟩
      · simp only [hii, if_false]
        cases s.hp i <;> simp
  refine ⟨fun t => RV_keep K _ _ (h.slots t), ⟨fun i o ho => ?_, ?_⟩, ⟨hg.os.trans h.since.os, hg.tape.trans h.since.tape, hg.output.trans h.since.output, Nat.le_trans h.since.size hg.size, fun b hb hn => ?_⟩, ?_, h.tmps, h.defers⟩
  · by_cases hi : i = id
    · subst hi
      simp only [FSt.ctx, if_true, Option.some.injEq] at ho
      subst ho
      refine ⟨hpos, .inl rfl, hlen, ⟨us, ?_, hsz, hone, by simpa [FSt.ctx] using hrow⟩, fun h => absurd h hk, fun _ b hb => .inr ⟨i, o', by simp, hk, hb⟩, fun hb => by simpa [FSt.ctx] using hbox hb⟩
      have : decide (o'.k = .ro) = false := by simpa using hk
      rw [this]; exact RVl_keep K _ _ hus
    · simp only [FSt.ctx, hi, if_false] at ho
      obtain ⟨p, l, n, ⟨vs, r1, r2, r3, r4⟩, hro, hw, hbx⟩ := h.laid.obj i o ho
      refine ⟨p, .inr l, n, ⟨vs, RVl_keep (K.withData rfl _) _ _ r1, r2, r3, ?_⟩, fun hk b hb => ?_, fun hk b hb => .inr ⟨i, o, by simpa [hi] using ho, hk, by simpa [FSt.ctx, hi] using hb⟩, fun hb => by simpa [FSt.ctx, hi] using hbx hb⟩
      · simp only [FSt.ctx, hi, if_false]
        refine r4.kept hg ?_
        show (η i).ownBlock = none ∨ (η i).ownBlock ≠ row
        cases hbi : (η i).ownBlock with
        | none => exact .inl rfl
        | some b =>
          refine .inr fun e => ?_
          obtain ⟨o1, ho1, hk1, hb1⟩ := hrowid b e.symm
          by_cases hko : o.k = .ro
          · exact hro hko b hbi (.inr ⟨id, o1, ho1, hk1, hb1⟩)
          · exact hi (h.laid.inj i id o o1 b ho ho1 hko hk1 hbi hb1)
      · simp only [FSt.ctx, hi, if_false] at hb
        intro hO
        have hbw := hlt_w i o b ho hb
        rcases hO with hO | hO
        · exact hro hk b hb (.inl hO)
        · exact hro hk b hb (.inr (hown' b hbw hO))
  · intro i j o1 o2 b h1 h2 k1 k2 b1 b2
    simp only [FSt.ctx] at h1 h2 b1 b2
    by_cases hi : i = id
    · by_cases hj : j = id
      · rw [hi, hj]
      · simp only [hi, if_true] at h1 b1
        simp only [hj, if_false] at h2 b2
        have hbw := hlt_w j o2 b h2 b2
        rcases hdrb b b1 with hb | hb
        · omega
        · obtain ⟨o, ho, hko, hbi⟩ := hrowid b hb
          exact hi.trans (h.laid.inj id j o o2 b ho h2 hko k2 hbi b2)
    · by_cases hj : j = id
      · simp only [hi, if_false] at h1 b1
        simp only [hj, if_true] at h2 b2
        have hbw := hlt_w i o1 b h1 b1
        rcases hdrb b b2 with hb | hb
        · omega
        · obtain ⟨o, ho, hko, hbi⟩ := hrowid b hb
          exact (h.laid.inj i id o1 o b h1 ho k1 hko b1 hbi).trans hj.symm
      · simp only [hi, if_false] at h1 b1
        simp only [hj, if_false] at h2 b2
        exact h.laid.inj i j o1 o2 b h1 h2 k1 k2 b1 b2
  · have hbw := Nat.lt_of_lt_of_le hb h.since.size
    rw [← h.since.block b hb hn]
    refine hg.block b hbw fun e => ?_
    obtain ⟨o, ho, hko, hbi⟩ := hrowid b e.symm
    rcases h.fresh b ⟨id, o, ho, hko, hbi⟩ with h1 | h1
    · exact hn h1
    · omega
  · intro b hb
    by_cases hbw : b < w.heap.size
    · exact h.fresh b (hown' b hbw hb)
    · exact .inr (Nat.le_trans h.since.size (by omega))
#print axioms Rel.lay
end Go.AM
