/- The abstract machine over the model: abstract values, what a world holds of them, and how that is kept when the world grows. It holds over any program. -/
import Derived.WalkKit
import Derived.Deep.MidRow
import Derived.Still
set_option linter.unusedSimpArgs false
set_option linter.unusedVariables false
namespace Go.AM
open Go.RowKit

inductive V where
  | bot
  | bool (b : Bool)
  | int (k : IntKind) (n : Int)
  | str (s : ByteArray)
  | nilS
  | sl (e : Nat) (xs : List V)
  | nl
  | sn (e : Nat) (xs : List V)
  | obj (id n : Nat)
  | ptr (id n i o : Nat)
  | win (id n i o k : Nat)
  | tptr (e : Nat) (xs : List V) (i o : Nat)
  | nilP
  | func (fn : Fn) (first caps : List V)
  | mp (id : Nat)
  | nilF
  | agg (cs : List V)
  | tup (vs : List V)
  | opt (g : Bool) (x : V)
  deriving Inhabited

/-- What stands in a block: a variable ('box'), a row that the call owns and may grow ('arr'), a row that nobody writes any more ('ro'), a map ('map'). -/
inductive Kind where
  | box | arr | ro | map
  deriving DecidableEq

structure Obj where
  k : Kind
  T : TypeId
  e : Nat
  xs : List V

abbrev Heap := Nat → Option Obj

/-- The block that a row's header, or a map, names. -/
def blk : Value → Option Nat
  | .slice (some a) _ _ => some a.block
  | .map r => r
  | _ => none

def flat (us : List Value) : List Value := us.flatMap fun u => u.cells.toList

structure Ctx where
  w : World
  O : Nat → Prop
  hp : Heap
  η : Nat → Value
  kn : Nat → Prop
  data : Bool

mutual
def RV (c : Ctx) : V → Value → Prop
  | .bot, _ => c.data = false
  | .bool b, v => v = .bool b
  | .int k n, v => v = .int k n ∧ k.has n
  | .str s, v => v = .string s
  | .nilS, v => v = .slice none 0 0
  | .sl e xs, v => ∃ a cap us, v = .slice a xs.length cap ∧ xs.length ≤ cap ∧ xs.length ≤ 140737488355328 ∧ RVl { c with data := true } xs us ∧ (∀ u ∈ us, u.cells.size = e) ∧ (∀ x ∈ flat us, x.oneCell' = true) ∧
      (xs = [] ∨ ∃ b off, a = some ⟨b, off, none⟩ ∧ ¬ c.O b ∧ b < c.w.heap.size ∧ c.w.rangeAt b off (flat us))
  | .nl, v => ∃ cap, v = .slice none 0 cap
  | .sn e xs, v => (∃ a n m, v = .slice (some a) n m) ∧ ∃ a cap us, v = .slice a xs.length cap ∧ xs.length ≤ cap ∧ xs.length ≤ 140737488355328 ∧ RVl { c with data := true } xs us ∧ (∀ u ∈ us, u.cells.size = e) ∧ (∀ x ∈ flat us, x.oneCell' = true) ∧
      (xs = [] ∨ ∃ b off, a = some ⟨b, off, none⟩ ∧ ¬ c.O b ∧ b < c.w.heap.size ∧ c.w.rangeAt b off (flat us))
  | .obj id n, v => (∃ a m cap, v = .slice a m cap) ∧ c.data = false ∧ c.kn id ∧ match c.hp id with
      | some o => o.k ≠ .map ∧ n ≤ o.xs.length ∧ (n = o.xs.length → v = c.η id)
      | none => True
  | .mp id, v => (∃ r, v = .map (some r)) ∧ c.data = false ∧ c.kn id ∧ match c.hp id with
      | some o => o.k = .map ∧ v = c.η id
      | none => True
  | .ptr id n i o, v => (∃ b k, v = .pointer (some ⟨b, k, none⟩)) ∧ c.data = false ∧ c.kn id ∧ match c.hp id with
      | some ob => ob.k ≠ .map ∧ n ≤ ob.xs.length ∧ (n = ob.xs.length → ∃ b, blk (c.η id) = some b ∧ v = .pointer (some ⟨b, i * ob.e + o, none⟩))
      | none => True
  | .win id n i o k, v => (∃ a m cap, v = .slice a m cap) ∧ c.data = false ∧ c.kn id ∧ match c.hp id with
      | some ob => ob.k ≠ .map ∧ n ≤ ob.xs.length ∧ (n = ob.xs.length → ∃ b cap, blk (c.η id) = some b ∧ v = .slice (some ⟨b, i * ob.e + o, none⟩) k cap ∧ k ≤ cap ∧ k ≤ 140737488355328)
      | none => True
  | .tptr e xs i o, v => ∃ b off us, RVl { c with data := true } xs us ∧ (∀ u ∈ us, u.cells.size = e) ∧ ¬ c.O b ∧ b < c.w.heap.size ∧ c.w.rangeAt b off (flat us) ∧ v = .pointer (some ⟨b, off + (i * e + o), none⟩)
  | .nilP, v => v = .pointer none
  | .func fn first caps, v => ∃ f1 c1, v = .func fn f1 c1 ∧ RVl c first f1.toList ∧ RVl c caps c1.toList
  | .nilF, v => v = .nilFunc
  | .agg cs, v => ∃ cv, v = .agg cv ∧ RVl c cs cv.toList ∧ ∀ u ∈ cv.toList, u.oneCell' = true
  | .tup vs, v => ∃ cv, v = .tuple cv ∧ RVl c vs cv.toList
  | .opt g x, v => c.data = false ∧ (g = true → RV c x v) ∧ (g = false → v = .tuple #[])
def RVl (c : Ctx) : List V → List Value → Prop
  | [], us => us = []
  | x :: xs, us => ∃ u r, us = u :: r ∧ RV c x u ∧ RVl c xs r
end

theorem RVl_length {c : Ctx} : ∀ {xs us}, RVl c xs us → us.length = xs.length
  | [], us, h => by simp only [RVl] at h; simp [h]
  | x :: xs, us, h => by
    simp only [RVl] at h
    obtain ⟨u, r, rfl, _, hr⟩ := h
    simp [RVl_length hr]

theorem RVl_get {c : Ctx} : ∀ {xs us}, RVl c xs us → ∀ (i : Nat) x, xs[i]? = some x → ∃ u, us[i]? = some u ∧ RV c x u
  | [], us, h, i, x, hx => by simp at hx
  | y :: xs, us, h, i, x, hx => by
    simp only [RVl] at h
    obtain ⟨u, r, rfl, hu, hr⟩ := h
    cases i with
    | zero => simp at hx; subst hx; exact ⟨u, by simp, hu⟩
    | succ i => simp at hx; obtain ⟨v, hv, hx'⟩ := RVl_get hr i x hx; exact ⟨v, by simpa using hv, hx'⟩

theorem RVl_of_get {c : Ctx} : ∀ {xs us}, us.length = xs.length → (∀ (i : Nat) x u, xs[i]? = some x → us[i]? = some u → RV c x u) → RVl c xs us
  | [], us, hl, _ => by simp only [RVl]; simpa using hl
  | x :: xs, [], hl, _ => by simp at hl
  | x :: xs, u :: us, hl, h => by
    simp only [RVl]
    exact ⟨u, us, rfl, h 0 x u (by simp) (by simp), RVl_of_get (by simpa using hl) (fun i y v hy hv => h (i + 1) y v (by simpa using hy) (by simpa using hv))⟩

theorem RVl_append {c : Ctx} {xs ys us vs} (h : RVl c xs us) (h' : RVl c ys vs) : RVl c (xs ++ ys) (us ++ vs) := by
  have l1 := RVl_length h
  have l2 := RVl_length h'
  refine RVl_of_get (by simp [l1, l2]) fun i x u hx hu => ?_
  by_cases hi : i < xs.length
  · rw [List.getElem?_append_left hi] at hx
    rw [List.getElem?_append_left (by omega)] at hu
    obtain ⟨v, hv, r⟩ := RVl_get h i x hx
    rw [hu] at hv; cases hv; exact r
  · rw [List.getElem?_append_right (by omega)] at hx
    rw [List.getElem?_append_right (by omega), l1] at hu
    obtain ⟨v, hv, r⟩ := RVl_get h' _ x hx
    rw [hu] at hv; cases hv; exact r

theorem RVl_set {c : Ctx} {xs us} (h : RVl c xs us) {i : Nat} {x u} (hx : RV c x u) : RVl c (xs.set i x) (us.set i u) := by
  have l1 := RVl_length h
  refine RVl_of_get (by simp [l1]) fun j y v hy hv => ?_
  rw [List.getElem?_set] at hy hv
  by_cases hij : i = j
  · subst hij
    simp only [if_true, l1] at hy hv
    by_cases hl : i < xs.length
    · simp [hl] at hy hv; subst hy; subst hv; exact hx
    · simp [hl] at hy
  · simp only [hij, if_false] at hy hv
    obtain ⟨z, hz, r⟩ := RVl_get h j y hy
    rw [hv] at hz; cases hz; exact r

theorem RVl_take {c : Ctx} {xs us} (n : Nat) (h : RVl c xs us) : RVl c (xs.take n) (us.take n) := by
  have l1 := RVl_length h
  refine RVl_of_get (by simp [l1]) fun j y v hy hv => ?_
  rw [List.getElem?_take] at hy hv
  split at hy
  · obtain ⟨z, hz, r⟩ := RVl_get h j y hy
    simp_all
  · simp at hy

theorem RVl_drop {c : Ctx} {xs us} (n : Nat) (h : RVl c xs us) : RVl c (xs.drop n) (us.drop n) := by
  have l1 := RVl_length h
  refine RVl_of_get (by simp [l1]) fun j y v hy hv => ?_
  rw [List.getElem?_drop] at hy hv
  obtain ⟨z, hz, r⟩ := RVl_get h _ y hy
  rw [hv] at hz; cases hz; exact r

/-! ## what is kept when the world turns -/

/-- How what stands under a number may turn: it may go; it may grow (what spoke of the shorter one says nothing any more); it may be written. -/
def EvoAt (c c' : Ctx) (id : Nat) : Prop :=
  match c.hp id with
  | none => c'.hp id = none
  | some o => match c'.hp id with
    | none => True
    | some o' => o'.e = o.e ∧ (o'.k = .map ↔ o.k = .map) ∧ (o.k = .map → c'.η id = c.η id) ∧ o.xs.length ≤ o'.xs.length ∧ (o.xs.length = o'.xs.length → c'.η id = c.η id)

/-- A block of cells. -/
def Celly (w : World) (b : Nat) : Prop := ∃ cs e f, w.heap[b]? = some (.cells cs e f)

/-- Every block that is not in O is as it was; O' holds nothing of the old world but what O held. -/
structure Keeps (c c' : Ctx) : Prop where
  size : c.w.heap.size ≤ c'.w.heap.size
  block : ∀ b, b < c.w.heap.size → ¬ c.O b → Celly c.w b → c'.w.heap[b]? = c.w.heap[b]?
  own : ∀ b, b < c.w.heap.size → c'.O b → c.O b
  data : c'.data = c.data
  kn : c.data = false → ∀ id, c.kn id → c'.kn id
  evo : c.data = false → ∀ id, c.kn id → EvoAt c c' id

theorem celly_of {w : World} {a : Addr} {v : Value} (h : w.cell? a = some v) : Celly w a.block := by
  unfold World.cell? at h
  split at h
  · rename_i c e f hc; exact ⟨c, e, f, hc⟩
  · cases h

theorem rangeAt_keep {w w' : World} {b off : Nat} {cs : List Value} (h : w.rangeAt b off cs) (hb : Celly w b → w'.heap[b]? = w.heap[b]?) : w'.rangeAt b off cs :=
  fun j v hv => by
    have h1 := h j v hv
    rw [World.cell?_of_block (w := w) (a := ⟨b, off + j, none⟩) (hb (celly_of h1))]; exact h1

theorem Keeps.asData {c c' : Ctx} (h : Keeps c c') : Keeps { c with data := true } { c' with data := true } :=
  ⟨h.size, h.block, h.own, rfl, by simp, by simp⟩

theorem Keeps.withData {c c' : Ctx} (h : Keeps c c') (hd : c.data = false) (d : Bool) : Keeps { c with data := d } { c' with data := d } :=
  ⟨h.size, h.block, h.own, rfl, fun _ => h.kn hd, fun _ => h.evo hd⟩

mutual
theorem RV_keep {c c' : Ctx} (h : Keeps c c') : ∀ (x : V) (v : Value), RV c x v → RV c' x v
  | .bot, v, hx => by simp only [RV] at hx ⊢; rw [h.data]; exact hx
  | .bool b, v, hx => by simpa only [RV] using hx
  | .int k n, v, hx => by simpa only [RV] using hx
  | .str s, v, hx => by simpa only [RV] using hx
  | .nilS, v, hx => by simpa only [RV] using hx
  | .sl e xs, v, hx => by
    simp only [RV] at hx ⊢
    obtain ⟨a, cap, us, hv, hcp, hl, hus, hsz, hone, hm⟩ := hx
    refine ⟨a, cap, us, hv, hcp, hl, RVl_keep h.asData _ _ hus, hsz, hone, ?_⟩
    rcases hm with hm | ⟨b, off, ha, hO, hb, hr⟩
    · exact .inl hm
    · exact .inr ⟨b, off, ha, fun hO' => hO (h.own b hb hO'), Nat.lt_of_lt_of_le hb h.size, rangeAt_keep hr (h.block b hb hO)⟩
  | .nl, v, hx => by simpa only [RV] using hx
  | .sn e xs, v, hx => by
    simp only [RV] at hx ⊢
    obtain ⟨hs, a, cap, us, hv, hcp, hl, hus, hsz, hone, hm⟩ := hx
    refine ⟨hs, a, cap, us, hv, hcp, hl, RVl_keep h.asData _ _ hus, hsz, hone, ?_⟩
    rcases hm with hm | ⟨b, off, ha, hO, hb, hr⟩
    · exact .inl hm
    · exact .inr ⟨b, off, ha, fun hO' => hO (h.own b hb hO'), Nat.lt_of_lt_of_le hb h.size, rangeAt_keep hr (h.block b hb hO)⟩
  | .obj id n, v, hx => by
    simp only [RV] at hx ⊢
    obtain ⟨hz, hd, hn, hx⟩ := hx
    refine ⟨hz, h.data.trans hd, h.kn hd id hn, ?_⟩
    have he := h.evo hd id hn
    unfold EvoAt at he
    cases h1 : c.hp id with
    | none => rw [h1] at he; simp only at he; rw [he]; trivial
    | some o =>
      rw [h1] at he hx
      cases h2 : c'.hp id with
      | none => trivial
      | some o' =>
        rw [h2] at he
        obtain ⟨e1, e4, _, e2, e3⟩ := he
        refine ⟨fun h => hx.1 (e4.1 h), by omega, fun hn' => ?_⟩
        rw [e3 (by omega)]
        exact hx.2.2 (by omega)
  | .ptr id n i o, v, hx => by
    simp only [RV] at hx ⊢
    obtain ⟨hz, hd, hn, hx⟩ := hx
    refine ⟨hz, h.data.trans hd, h.kn hd id hn, ?_⟩
    have he := h.evo hd id hn
    unfold EvoAt at he
    cases h1 : c.hp id with
    | none => rw [h1] at he; simp only at he; rw [he]; trivial
    | some o =>
      rw [h1] at he hx
      cases h2 : c'.hp id with
      | none => trivial
      | some o' =>
        rw [h2] at he
        obtain ⟨e1, e4, _, e2, e3⟩ := he
        refine ⟨fun h => hx.1 (e4.1 h), by omega, fun hn' => ?_⟩
        rw [e3 (by omega), e1]
        exact hx.2.2 (by omega)
  | .win id n i o k, v, hx => by
    simp only [RV] at hx ⊢
    obtain ⟨hz, hd, hn, hx⟩ := hx
    refine ⟨hz, h.data.trans hd, h.kn hd id hn, ?_⟩
    have he := h.evo hd id hn
    unfold EvoAt at he
    cases h1 : c.hp id with
    | none => rw [h1] at he; simp only at he; rw [he]; trivial
    | some o =>
      rw [h1] at he hx
      cases h2 : c'.hp id with
      | none => trivial
      | some o' =>
        rw [h2] at he
        obtain ⟨e1, e4, _, e2, e3⟩ := he
        refine ⟨fun h => hx.1 (e4.1 h), by omega, fun hn' => ?_⟩
        rw [e3 (by omega), e1]
        exact hx.2.2 (by omega)
  | .mp id, v, hx => by
    simp only [RV] at hx ⊢
    obtain ⟨hz, hd, hn, hx⟩ := hx
    refine ⟨hz, h.data.trans hd, h.kn hd id hn, ?_⟩
    have he := h.evo hd id hn
    unfold EvoAt at he
    cases h1 : c.hp id with
    | none => rw [h1] at he; simp only at he; rw [he]; trivial
    | some o =>
      rw [h1] at he hx
      cases h2 : c'.hp id with
      | none => trivial
      | some o' =>
        rw [h2] at he
        obtain ⟨e1, e4, e5, e2, e3⟩ := he
        exact ⟨e4.2 hx.1, by rw [e5 hx.1]; exact hx.2⟩
  | .tptr e xs i o, v, hx => by
    simp only [RV] at hx ⊢
    obtain ⟨b, off, us, hus, hsz, hO, hb, hr, hv⟩ := hx
    exact ⟨b, off, us, RVl_keep h.asData _ _ hus, hsz, fun hO' => hO (h.own b hb hO'), Nat.lt_of_lt_of_le hb h.size, rangeAt_keep hr (h.block b hb hO), hv⟩
  | .nilP, v, hx => by simpa only [RV] using hx
  | .func fn first caps, v, hx => by
    simp only [RV] at hx ⊢
    obtain ⟨f1, c1, hv, h1, h2⟩ := hx
    exact ⟨f1, c1, hv, RVl_keep h _ _ h1, RVl_keep h _ _ h2⟩
  | .nilF, v, hx => by simpa only [RV] using hx
  | .agg cs, v, hx => by
    simp only [RV] at hx ⊢
    obtain ⟨cv, hv, h1, h2⟩ := hx
    exact ⟨cv, hv, RVl_keep h _ _ h1, h2⟩
  | .tup vs, v, hx => by
    simp only [RV] at hx ⊢
    obtain ⟨cv, hv, h1⟩ := hx
    exact ⟨cv, hv, RVl_keep h _ _ h1⟩
  | .opt g x, v, hx => by
    simp only [RV] at hx ⊢
    exact ⟨h.data.trans hx.1, fun hg => RV_keep h x v (hx.2.1 hg), hx.2.2⟩
theorem RVl_keep {c c' : Ctx} (h : Keeps c c') : ∀ (xs : List V) (us : List Value), RVl c xs us → RVl c' xs us
  | [], us, hx => by simpa only [RVl] using hx
  | x :: xs, us, hx => by
    simp only [RVl] at hx ⊢
    obtain ⟨u, r, hu, h1, h2⟩ := hx
    exact ⟨u, r, hu, RV_keep h x u h1, RVl_keep h xs r h2⟩
end

/-! ## objects laid in the world -/

def Own (hp : Heap) (η : Nat → Value) (b : Nat) : Prop := ∃ id o, hp id = some o ∧ o.k ≠ .ro ∧ blk (η id) = some b

/-- How an object's values lie: a row of cells; a map's entries. -/
def RowAt (w : World) (o : Obj) (v : Value) (us : List Value) : Prop :=
  if o.k = .map then ∃ r es clk, v = .map (some r) ∧ w.heap[r]? = some (.map es clk) ∧ us = es.toList.map fun x => .tuple #[x.key, x.val]
  else (∀ u ∈ us, u.cells.size = o.e) ∧ (∀ x ∈ flat us, x.oneCell' = true) ∧ w.ownsRow 0 o.T o.e v o.xs.length (flat us)

theorem blk_slice {v : Value} (h : ∃ a n c, v = .slice a n c) : blk v = v.ownBlock := by
  obtain ⟨a, n, c, rfl⟩ := h
  cases a <;> rfl
theorem blk_row {w : World} {T : TypeId} {e n : Nat} {v : Value} {xs : List Value} (h : w.ownsRow 0 T e v n xs) : blk v = v.ownBlock := by
  rcases h.2 with ⟨h, _⟩ | ⟨g, cap, cur, h, _⟩ <;> exact blk_slice ⟨_, _, _, h⟩

theorem RowAt.lt {w : World} {o : Obj} {v : Value} {us : List Value} (h : RowAt w o v us) {b : Nat} (hb : blk v = some b) : b < w.heap.size := by
  unfold RowAt at h
  split at h
  · obtain ⟨r, es, clk, rfl, hr, _⟩ := h
    simp only [blk, Option.some.injEq] at hb
    subst hb
    exact (Array.getElem?_eq_some_iff.1 hr).1
  · rw [blk_row h.2.2] at hb
    exact (h.2.2.lt b hb).2

/-- The row lies as it lay, where its own block does. -/
theorem RowAt.keep {w w' : World} {o : Obj} {v : Value} {us : List Value} (h : RowAt w o v us) (hb : ∀ b, blk v = some b → w'.heap[b]? = w.heap[b]?) : RowAt w' o v us := by
  unfold RowAt at h ⊢
  split at h
  · rename_i hk
    obtain ⟨r, es, clk, rfl, hr, hu⟩ := h
    rw [if_pos hk]
    exact ⟨r, es, clk, rfl, by rw [hb r rfl]; exact hr, hu⟩
  · rename_i hk
    rw [if_neg hk]
    refine ⟨h.1, h.2.1, h.2.2.1, ?_⟩
    rcases h.2.2.2 with h3 | ⟨g, cap, cur, rfl, h4, h5, h6⟩
    · exact .inl h3
    · exact .inr ⟨g, cap, cur, rfl, h4, by rw [hb g rfl]; exact h5, h6⟩

structure LaidO (c : Ctx) (id : Nat) (o : Obj) : Prop where
  pos : 0 < o.e
  lt : c.kn id
  len : o.xs.length ≤ 140737488355328
  row : ∃ us, RVl { c with data := decide (o.k = .ro) } o.xs us ∧ RowAt c.w o (c.η id) us
  ro : o.k = .ro → ∀ b, blk (c.η id) = some b → ¬ c.O b
  own : o.k ≠ .ro → ∀ b, blk (c.η id) = some b → c.O b
  box : o.k = .box → ∃ b, c.η id = .slice (some ⟨b, 0, none⟩) 1 1

structure Laid (c : Ctx) : Prop where
  obj : ∀ id o, c.hp id = some o → LaidO c id o
  inj : ∀ id id' o o' b, c.hp id = some o → c.hp id' = some o' → o.k ≠ .ro → o'.k ≠ .ro → blk (c.η id) = some b → blk (c.η id') = some b → id = id'

/-- Where a call began: its world, the blocks that it was handed as its own, the blocks that it must not lean on. -/
structure Entry where
  w0 : World
  own0 : Nat → Prop
  base : Nat → Prop
  hb : ∀ b, base b → b < w0.heap.size ∧ ¬ own0 b
  /-- how many objects were handed in, what they were, where they lay -/
  nb : Nat
  hp0 : Heap
  hd0 : Nat → Value
  /-- blocks of the machine's own that stay as they are -/
  fix : List (Nat × Go.Obj) := []
  /-- data that is kept besides -/
  gh : List (V × Value) := []

structure FSt where
  sl : Nat → V
  hp : Heap
  kn : Nat → Prop
  N : Nat
  nb : Nat
  gl : Nat → Option (Nat × List V)

/-- What was handed in under a number is still there, perhaps turned. -/
def HeldAt (E : Entry) (s : FSt) (η : Nat → Value) (i : Nat) : Prop :=
  s.kn i ∧ ∃ o0 o, E.hp0 i = some o0 ∧ s.hp i = some o ∧ o.k ≠ .ro ∧ o.e = o0.e ∧ (o.k = .map ↔ o0.k = .map) ∧ (o0.k = .map → η i = E.hd0 i) ∧ o0.xs.length ≤ o.xs.length ∧ (o0.xs.length = o.xs.length → η i = E.hd0 i)
structure Held (E : Entry) (s : FSt) (η : Nat → Value) : Prop where
  nb : E.nb = s.nb
  at_ : ∀ i, i < s.nb → HeldAt E s η i

def FSt.ctx (E : Entry) (s : FSt) (w : World) (η : Nat → Value) : Ctx := ⟨w, fun b => E.base b ∨ Own s.hp η b, s.hp, η, s.kn, false⟩

/-- The world has only grown since the entry, but for the blocks that were handed in. -/
structure Since (E : Entry) (w : World) : Prop where
  os : w.os = E.w0.os
  tape : w.tape = E.w0.tape
  output : w.output = E.w0.output
  size : E.w0.heap.size ≤ w.heap.size
  block : ∀ b, b < E.w0.heap.size → ¬ E.own0 b → w.heap[b]? = E.w0.heap[b]?

/-- Neither cells nor a map. -/
def opq : Go.Obj → Bool
  | .cells .. | .map .. => false
  | _ => true
def FixW (w : World) (l : List (Nat × Go.Obj)) : Prop := ∀ p ∈ l, w.heap[p.1]? = some p.2 ∧ opq p.2 = true
/-- The marks among an activation's deferred calls: each names a block of its own, with no call in it. -/
def Marks (n0 : Nat) (w : World) : List Deferred → Prop
  | [] => True
  | d :: r => (∃ D, d = { target := .collected D, args := #[] } ∧ n0 ≤ D ∧ w.heap[D]? = some (.deferred (some [])) ∧ ∀ d' ∈ r, d' ≠ { target := .collected D, args := #[] }) ∧ Marks n0 w r
structure Own2 (E : Entry) (a : Act) (w : World) : Prop where
  fix : FixW w E.fix
  marks : Marks E.w0.heap.size w a.defers
def KeepsOpq (w w' : World) : Prop := ∀ (b : Nat) (o : Go.Obj), w.heap[b]? = some o → opq o = true → w'.heap[b]? = some o
theorem Marks.keep {n0 : Nat} {w w' : World} (hk : KeepsOpq w w') : ∀ {l : List Deferred}, Marks n0 w l → Marks n0 w' l
  | [], _ => by simp [Marks]
  | d :: r, h => by
    simp only [Marks] at h ⊢
    obtain ⟨⟨D, h1, h2, h3, h4⟩, h5⟩ := h
    exact ⟨⟨D, h1, h2, hk _ _ h3 rfl, h4⟩, h5.keep hk⟩
theorem Own2.keep {E : Entry} {a : Act} {w w' : World} (h : Own2 E a w) (hk : KeepsOpq w w') : Own2 E a w' := ⟨fun p hp => ⟨hk _ _ (h.fix p hp).1 (h.fix p hp).2, (h.fix p hp).2⟩, h.marks.keep hk⟩
theorem KeepsOpq.grown {w w' : World} (hg : w.grownBy w' none) : KeepsOpq w w' := fun b o hb _ => by
  rw [hg.block b (Array.getElem?_eq_some_iff.1 hb).1 (by simp)]; exact hb
theorem RowAt.notOpq {w : World} {o : Obj} {v : Value} {us : List Value} (h : RowAt w o v us) {b : Nat} (hb : blk v = some b) {o' : Go.Obj} (ho : w.heap[b]? = some o') : opq o' = false := by
  unfold RowAt at h
  split at h
  · obtain ⟨r, es, clk, rfl, hr, _⟩ := h
    simp only [blk, Option.some.injEq] at hb
    subst hb
    rw [hr] at ho; cases ho; rfl
  · rcases h.2.2.2 with ⟨rfl, _⟩ | ⟨g, cap, cur, rfl, _, hg, _⟩
    · simp [blk] at hb
    · simp [blk] at hb; subst hb
      rw [hg] at ho; cases ho; rfl

structure Rel (E : Entry) (s : FSt) (a : Act) (w : World) (η : Nat → Value) : Prop where
  slots : ∀ t, RV (s.ctx E w η) (s.sl t) (a.tmps.getD t undef)
  laid : Laid (s.ctx E w η)
  since : Since E w
  fresh : ∀ b, Own s.hp η b → E.own0 b ∨ E.w0.heap.size ≤ b
  tmps : a.tmps.size = s.N
  defers : Own2 E a w
  held : Held E s η
  glob : ∀ g p, s.gl g = some p → RV (s.ctx E w η) (.tptr p.1 p.2 0 0) (.pointer (some ⟨g, 0, none⟩))
  ghost : ∀ p ∈ E.gh, RV { s.ctx E w η with data := true } p.1 p.2

def FSt.put (s : FSt) (d : Option Tmp) (x : V) : FSt :=
  match d with
  | none => s
  | some d => if d < s.N then { s with sl := fun t => if t = d then x else s.sl t } else s

theorem Rel.put {E : Entry} {s : FSt} {a : Act} {w : World} {η : Nat → Value} (h : Rel E s a w η) (d : Option Tmp) {x : V} {v : Value} (hx : RV (s.ctx E w η) x v) :
    Rel E (s.put d x) (a.put d v) w η := by
  cases d with
  | none => exact h
  | some d =>
    unfold FSt.put
    by_cases hd : d < s.N
    · simp only [hd, if_true]
      refine ⟨fun t => ?_, h.laid, h.since, h.fresh, by simpa [Act.put] using h.tmps, ⟨h.defers.fix, h.defers.marks⟩, ⟨h.held.nb, h.held.at_⟩, h.glob, h.ghost⟩
      by_cases ht : t = d
      · subst ht
        have : (a.put (some t) v).tmps.getD t undef = v := by simp [Act.put, h.tmps, hd]
        rw [this]; simp only [if_true]; exact hx
      · have : (a.put (some d) v).tmps.getD t undef = a.tmps.getD t undef := by
          simp [Act.put, Array.getElem?_setIfInBounds_ne (Ne.symm ht)]
        rw [this]; simp only [ht, if_false]; exact h.slots t
    · simp only [hd, if_false]
      have : a.put (some d) v = a := by
        simp only [Act.put]
        have h2 : a.tmps.size ≤ d := by rw [h.tmps]; exact Nat.le_of_not_lt hd
        rw [Array.setIfInBounds_eq_of_size_le h2]
      rw [this]; exact h

/-- The world has grown, nothing of it has turned (a draw; blocks that nobody names). -/
theorem Rel.grow {E : Entry} {s : FSt} {a : Act} {w w' : World} {η : Nat → Value} (h : Rel E s a w η) (hg : w.grownBy w' none) : Rel E s a w' η := by
  have hk : ∀ b, b < w.heap.size → w'.heap[b]? = w.heap[b]? := fun b hb => hg.block b hb (by simp)
  have K : Keeps (s.ctx E w η) (s.ctx E w' η) := ⟨hg.size, fun b hb _ _ => hk b hb, fun b _ h => h, rfl, fun _ _ h => h, fun _ id _ => by
    unfold EvoAt
    cases h1 : s.hp id <;> simp [FSt.ctx, h1]⟩
  refine ⟨fun t => RV_keep K _ _ (h.slots t), ⟨fun id o ho => ?_, h.laid.inj⟩, ⟨hg.os.trans h.since.os, hg.tape.trans h.since.tape, hg.output.trans h.since.output, Nat.le_trans h.since.size hg.size, fun b hb hn => (hk b (Nat.lt_of_lt_of_le hb h.since.size)).trans (h.since.block b hb hn)⟩, h.fresh, h.tmps, h.defers.keep (.grown hg), h.held, fun g p hp => RV_keep K _ _ (h.glob g p hp), fun p hp => RV_keep K.asData _ _ (h.ghost p hp)⟩
  obtain ⟨p, l, n, ⟨us, r1, r2⟩, hro, hown, hbox⟩ := h.laid.obj id o ho
  exact ⟨p, l, n, ⟨us, RVl_keep (K.withData rfl _) _ _ r1, r2.keep fun b hb => hk b (r2.lt hb)⟩, hro, hown, hbox⟩

/-- ONE OBJECT IS LAID OR TURNS: under a fresh number, or under its own one; the world has grown but for the row that it had. -/
theorem Rel.layG {E : Entry} {s : FSt} {a : Act} {w w' : World} {η : Nat → Value} (h : Rel E s a w η) (id : Nat) (o' : Obj) (hdr : Value) (row : Option Nat)
    (hg : w.grownBy w' row)
    (hid : (¬ s.kn id ∧ row = none) ∨ ∃ o, s.hp id = some o ∧ o.k ≠ .ro ∧ row = blk (η id) ∧ o'.e = o.e ∧ (o'.k = .map ↔ o.k = .map) ∧ (o.k = .map → hdr = η id) ∧ o.xs.length ≤ o'.xs.length ∧ (o.xs.length = o'.xs.length → hdr = η id))
    (hk : o'.k ≠ .ro) (hpos : 0 < o'.e) (hlen : o'.xs.length ≤ 140737488355328)
    (hdrb : ∀ b, blk hdr = some b → w.heap.size ≤ b ∨ (row = some b))
    (hbox : o'.k = .box → ∃ b, hdr = .slice (some ⟨b, 0, none⟩) 1 1)
    (us : List Value) (hus : RVl (s.ctx E w η) o'.xs us) (hrow : RowAt w' o' hdr us) :
    Rel E { s with hp := fun i => if i = id then some o' else s.hp i, kn := fun i => i = id ∨ s.kn i } a w' (fun i => if i = id then hdr else η i) := by
  -- the numbers' own blocks lie in the world
  have hlt_w : ∀ i o b, s.hp i = some o → blk (η i) = some b → b < w.heap.size := fun i o b ho hb => by
    obtain ⟨us, _, r4⟩ := (h.laid.obj i o ho).row
    exact r4.lt hb
  have hrowid : ∀ b, row = some b → ∃ o, s.hp id = some o ∧ o.k ≠ .ro ∧ blk (η id) = some b := fun b hb => by
    rcases hid with ⟨_, hr⟩ | ⟨o, ho, hk, hr, _⟩
    · rw [hr] at hb; cases hb
    · exact ⟨o, ho, hk, by rw [← hr]; exact hb⟩
  -- own blocks of the new state
  have hown : ∀ b, Own (fun i => if i = id then some o' else s.hp i) (fun i => if i = id then hdr else η i) b → (blk hdr = some b) ∨ (∃ i o, i ≠ id ∧ s.hp i = some o ∧ o.k ≠ .ro ∧ blk (η i) = some b) := by
    rintro b ⟨i, o, ho, hko, hb⟩
    by_cases hi : i = id
    · subst hi; simp at hb; exact .inl hb
    · simp [hi] at ho hb; exact .inr ⟨i, o, hi, ho, hko, hb⟩
  have hown' : ∀ b, b < w.heap.size → Own (fun i => if i = id then some o' else s.hp i) (fun i => if i = id then hdr else η i) b → Own s.hp η b := fun b hb ho => by
    rcases hown b ho with hd | ⟨i, o, _, ho, hko, hbi⟩
    · rcases hdrb b hd with h1 | h1
      · omega
      · obtain ⟨o, ho, hko, hbi⟩ := hrowid b h1
        exact ⟨id, o, ho, hko, hbi⟩
    · exact ⟨i, o, ho, hko, hbi⟩
  have hblk : ∀ b, b < w.heap.size → ¬ Own s.hp η b → w'.heap[b]? = w.heap[b]? := fun b hb hO => hg.block b hb (fun e => by
    obtain ⟨o, ho, hko, hbi⟩ := hrowid b e.symm
    exact hO ⟨id, o, ho, hko, hbi⟩)
  have K : Keeps (s.ctx E w η) (FSt.ctx E { s with hp := fun i => if i = id then some o' else s.hp i, kn := fun i => i = id ∨ s.kn i } w' (fun i => if i = id then hdr else η i)) := by
    refine ⟨hg.size, fun b hb hO _ => hblk b hb (fun h => hO (.inr h)), fun b hb ho => ?_, rfl, fun _ _ h => .inr h, fun _ i hi => ?_⟩
    · rcases ho with ho | ho
      · exact .inl ho
      · exact .inr (hown' b hb ho)
    · unfold EvoAt
      simp only [FSt.ctx] at hi ⊢
      by_cases hii : i = id
      · subst hii
        rcases hid with ⟨h1, _⟩ | ⟨o, ho, hko, _, h1, h4, h5, h2, h3⟩
        · exact absurd hi h1
        · simp only [ho, if_true]; exact ⟨h1, h4, h5, h2, h3⟩
      · simp only [hii, if_false]
        cases s.hp i <;> simp
  refine ⟨fun t => RV_keep K _ _ (h.slots t), ⟨fun i o ho => ?_, ?_⟩, ⟨hg.os.trans h.since.os, hg.tape.trans h.since.tape, hg.output.trans h.since.output, Nat.le_trans h.since.size hg.size, fun b hb hn => ?_⟩, ?_, h.tmps, h.defers.keep (fun b o2 hb ho2 => by
    rw [hg.block b (Array.getElem?_eq_some_iff.1 hb).1 (fun e => ?_)]
    · exact hb
    · obtain ⟨o3, ho3, _, hb3⟩ := hrowid b e.symm
      obtain ⟨us3, _, r3⟩ := (h.laid.obj id o3 ho3).row
      rw [r3.notOpq hb3 hb] at ho2; cases ho2), ⟨h.held.nb, fun i hi => ?_⟩, fun g p hp => RV_keep K _ _ (h.glob g p hp), fun p hp => RV_keep K.asData _ _ (h.ghost p hp)⟩
  · by_cases hi : i = id
    · subst hi
      simp only [FSt.ctx, if_true, Option.some.injEq] at ho
      subst ho
      refine ⟨hpos, .inl rfl, hlen, ⟨us, ?_, by simpa [FSt.ctx] using hrow⟩, fun h => absurd h hk, fun _ b hb => .inr ⟨i, o', by simp, hk, hb⟩, fun hb => by simpa [FSt.ctx] using hbox hb⟩
      have : decide (o'.k = .ro) = false := by simpa using hk
      rw [this]; exact RVl_keep K _ _ hus
    · simp only [FSt.ctx, hi, if_false] at ho
      obtain ⟨p, l, n, ⟨vs, r1, r4⟩, hro, hw, hbx⟩ := h.laid.obj i o ho
      refine ⟨p, .inr l, n, ⟨vs, RVl_keep (K.withData rfl _) _ _ r1, ?_⟩, fun hk b hb => ?_, fun hk b hb => .inr ⟨i, o, by simpa [hi] using ho, hk, by simpa [FSt.ctx, hi] using hb⟩, fun hb => by simpa [FSt.ctx, hi] using hbx hb⟩
      · simp only [FSt.ctx, hi, if_false]
        refine r4.keep fun b hbi => hg.block b (r4.lt hbi) fun e => ?_
        obtain ⟨o1, ho1, hk1, hb1⟩ := hrowid b e.symm
        by_cases hko : o.k = .ro
        · exact hro hko b hbi (.inr ⟨id, o1, ho1, hk1, hb1⟩)
        · exact hi (h.laid.inj i id o o1 b ho ho1 hko hk1 hbi hb1)
      · simp only [FSt.ctx, hi, if_false] at hb
        intro hO
        have hbw := hlt_w i o b ho hb
        rcases hO with hO | hO
        · exact hro hk b hb (.inl hO)
        · exact hro hk b hb (.inr (hown' b hbw hO))
  · intro i j o1 o2 b h1 h2 k1 k2 b1 b2
    simp only [FSt.ctx] at h1 h2 b1 b2
    by_cases hi : i = id
    · by_cases hj : j = id
      · rw [hi, hj]
      · simp only [hi, if_true] at h1 b1
        simp only [hj, if_false] at h2 b2
        have hbw := hlt_w j o2 b h2 b2
        rcases hdrb b b1 with hb | hb
        · omega
        · obtain ⟨o, ho, hko, hbi⟩ := hrowid b hb
          exact hi.trans (h.laid.inj id j o o2 b ho h2 hko k2 hbi b2)
    · by_cases hj : j = id
      · simp only [hi, if_false] at h1 b1
        simp only [hj, if_true] at h2 b2
        have hbw := hlt_w i o1 b h1 b1
        rcases hdrb b b2 with hb | hb
        · omega
        · obtain ⟨o, ho, hko, hbi⟩ := hrowid b hb
          exact (h.laid.inj i id o1 o b h1 ho k1 hko b1 hbi).trans hj.symm
      · simp only [hi, if_false] at h1 b1
        simp only [hj, if_false] at h2 b2
        exact h.laid.inj i j o1 o2 b h1 h2 k1 k2 b1 b2
  · have hbw := Nat.lt_of_lt_of_le hb h.since.size
    rw [← h.since.block b hb hn]
    refine hg.block b hbw fun e => ?_
    obtain ⟨o, ho, hko, hbi⟩ := hrowid b e.symm
    rcases h.fresh b ⟨id, o, ho, hko, hbi⟩ with h1 | h1
    · exact hn h1
    · omega
  · intro b hb
    by_cases hbw : b < w.heap.size
    · exact h.fresh b (hown' b hbw hb)
    · exact .inr (Nat.le_trans h.since.size (by omega))
  · obtain ⟨hkn, o0, o, h1, h2, h3, h4, h7, h8, h5, h6⟩ := h.held.at_ i hi
    refine ⟨.inr hkn, ?_⟩
    by_cases hii : i = id
    · subst hii
      rcases hid with ⟨hk', _⟩ | ⟨o1, ho, hko, _, q1, q4, q5, q2, q3⟩
      · exact absurd hkn hk'
      · rw [ho] at h2; cases h2
        exact ⟨o0, o', h1, by simp, hk, q1.trans h4, q4.trans h7, fun e => by
          simp only [if_true]
          rw [q5 (h7.2 e), h8 e], Nat.le_trans h5 q2, fun e => by
          have e1 : o0.xs.length = o.xs.length := by omega
          have e2 : o.xs.length = o'.xs.length := by omega
          simp only [if_true]
          rw [q3 e2, h6 e1]⟩
    · exact ⟨o0, o, h1, by simp only [hii, if_false]; exact h2, h3, h4, h7, by simp only [hii, if_false]; exact h8, h5, by simp only [hii, if_false]; exact h6⟩

/-- The same, of a row. -/
theorem Rel.lay {E : Entry} {s : FSt} {a : Act} {w w' : World} {η : Nat → Value} (h : Rel E s a w η) (id : Nat) (o' : Obj) (hdr : Value) (row : Option Nat)
    (hg : w.grownBy w' row)
    (hid : (¬ s.kn id ∧ row = none) ∨ ∃ o, s.hp id = some o ∧ o.k ≠ .ro ∧ row = blk (η id) ∧ o'.e = o.e ∧ o.xs.length ≤ o'.xs.length ∧ (o.xs.length = o'.xs.length → hdr = η id))
    (hk : o'.k ≠ .ro) (hpos : 0 < o'.e) (hlen : o'.xs.length ≤ 140737488355328)
    (hdrb : ∀ b, blk hdr = some b → w.heap.size ≤ b ∨ (row = some b))
    (hbox : o'.k = .box → ∃ b, hdr = .slice (some ⟨b, 0, none⟩) 1 1)
    (us : List Value) (hus : RVl (s.ctx E w η) o'.xs us) (hsz : ∀ u ∈ us, u.cells.size = o'.e) (hone : ∀ x ∈ flat us, x.oneCell' = true)
    (hrow : w'.ownsRow 0 o'.T o'.e hdr o'.xs.length (flat us)) (hm : o'.k ≠ .map) (hm' : ∀ o, s.hp id = some o → row = blk (η id) → s.kn id → o.k ≠ .map) :
    Rel E { s with hp := fun i => if i = id then some o' else s.hp i, kn := fun i => i = id ∨ s.kn i } a w' (fun i => if i = id then hdr else η i) :=
  h.layG id o' hdr row hg (hid.imp_right fun ⟨o, h1, h2, h3, h4, h5, h6⟩ => by
    have hn := hm' o h1 h3 (h.laid.obj id o h1).lt
    exact ⟨o, h1, h2, h3, h4, ⟨fun h => absurd h hm, fun h => absurd h hn⟩, fun h => absurd h hn, h5, h6⟩) hk hpos hlen hdrb hbox us hus (by unfold RowAt; rw [if_neg hm]; exact ⟨hsz, hone, hrow⟩)

/-- A block is written anew. -/
def putO (w : World) (r : Nat) (o : Go.Obj) : World := { w with heap := w.heap.setIfInBounds r o }
theorem putO_same {w : World} {r : Nat} {o : Go.Obj} (h : r < w.heap.size) : (putO w r o).heap[r]? = some o := by simp [putO, h]
theorem putO_other {w : World} {r b : Nat} {o : Go.Obj} (h : b ≠ r) : (putO w r o).heap[b]? = w.heap[b]? := by
  simp [putO, Array.getElem?_setIfInBounds_ne (Ne.symm h)]
theorem putO_grown (w : World) (r : Nat) (o : Go.Obj) : w.grownBy (putO w r o) (some r) :=
  ⟨rfl, rfl, rfl, by simp [putO], fun b _ hne => putO_other fun e => hne (by rw [e])⟩

/-- A block of the machine's own turns. -/
theorem Rel.turn {E E' : Entry} {s : FSt} {a a' : Act} {w : World} {η : Nat → Value} (h : Rel E s a w η) {l : Nat} {o o' : Go.Obj} (hl : E.w0.heap.size ≤ l) (ho : w.heap[l]? = some o) (hq : opq o = true)
    (hE : E' = { E with fix := E'.fix, gh := E'.gh }) (hgh : ∀ p ∈ E'.gh, RV { s.ctx E w η with data := true } p.1 p.2) (ha : a'.tmps = a.tmps) (h2 : Own2 E' a' (putO w l o')) : Rel E' s a' (putO w l o') η := by
  have hlt : l < w.heap.size := (Array.getElem?_eq_some_iff.1 ho).1
  have hw0 : E'.w0 = E.w0 := by rw [hE]
  have hb : E'.base = E.base := by rw [hE]
  have hown : E'.own0 = E.own0 := by rw [hE]
  have hctx : s.ctx E' (putO w l o') η = { s.ctx E w η with w := putO w l o' } := by unfold FSt.ctx; rw [hb]
  have hne : ∀ b, Celly w b → b ≠ l := fun b ⟨cs, e, f, hc⟩ hbl => by
    subst hbl; rw [ho] at hc; cases hc; cases hq
  have K : Keeps (s.ctx E w η) (s.ctx E' (putO w l o') η) := by
    rw [hctx]
    refine ⟨by simp [FSt.ctx, putO], fun b hb _ hc => putO_other (hne b hc), fun b _ h => h, rfl, fun _ _ h => h, fun _ id _ => ?_⟩
    unfold EvoAt
    cases h1 : s.hp id <;> simp [FSt.ctx, h1]
  refine ⟨fun t => by rw [ha]; exact RV_keep K _ _ (h.slots t), ⟨fun id o1 h1 => ?_, ?_⟩, ?_, fun b hb => ?_, by rw [ha]; exact h.tmps, h2, ⟨?_, fun i hi => ?_⟩, fun g p hp => RV_keep K _ _ (h.glob g p hp), fun p hp => RV_keep K.asData _ _ (hgh p hp)⟩
  · obtain ⟨p, kn, n, ⟨us, r1, r2⟩, hro, hw, hbox⟩ := h.laid.obj id o1 h1
    refine ⟨p, kn, n, ⟨us, RVl_keep (K.withData rfl _) _ _ r1, r2.keep fun b hb => putO_other fun e => ?_⟩, fun hk b hb hO => hro hk b hb (by rw [hctx] at hO; exact hO), fun hk b hb => by rw [hctx]; exact hw hk b hb, hbox⟩
    subst e
    have := r2.notOpq hb ho
    rw [hq] at this; cases this
  · rw [hctx]; exact h.laid.inj
  · have hs := h.since
    refine ⟨by rw [hw0]; exact hs.os, by rw [hw0]; exact hs.tape, by rw [hw0]; exact hs.output, by rw [hw0]; simpa [putO] using hs.size, fun b hb hn => ?_⟩
    rw [hw0] at hb ⊢
    rw [hown] at hn
    rw [putO_other (by omega)]
    exact hs.block b hb hn
  · rw [hown, hw0]; exact h.fresh b hb
  · rw [hE]; exact h.held.nb
  · have := h.held.at_ i hi
    unfold HeldAt at this ⊢
    rw [hE]; exact this
#print axioms Rel.lay
end Go.AM
