/- Each operation's step against the model: maps. -/
import Derived.Test.YtdeionjkcmpnpaaDoorAmIsound3
import Derived.MapKept
import Derived.ChangeKeysEq
set_option linter.unusedSimpArgs false
set_option linter.unusedVariables false
namespace Go.AM
open Go.RowKit

def ent (x : MapEntry) : Value := .tuple #[x.key, x.val]

section
variable {P : Program} {E : Entry} {s : FSt} {a : Act} {w : World} {η : Nat → Value} {o : Oper}

theorem ent_RV {c : Ctx} {k v : V} {x : MapEntry} : RV c (.tup [k, v]) (ent x) ↔ RV c k x.key ∧ RV c v x.val := by
  simp only [RV, ent, RVl, Value.tuple.injEq]
  constructor
  · rintro ⟨cv, rfl, u, r, h1, h2, u2, r2, h3, h4, _⟩
    simp at h1
    obtain ⟨rfl, rfl⟩ := h1
    simp at h3
    obtain ⟨rfl, rfl⟩ := h3
    exact ⟨h2, h4⟩
  · rintro ⟨h1, h2⟩
    exact ⟨_, rfl, _, _, rfl, h1, _, _, rfl, h2, rfl⟩

theorem hit_of {c : Ctx} {key : V} {EQ : Value → Bool → Prop} (hEQ : ∀ kx vx b, keyB key kx = some b → RV c kx vx → EQ vx b) : ∀ (xs : List V) (es : List MapEntry) (r : Option V), mfind key xs = some r → RVl c xs (es.map ent) →
    (r = none ∧ ∀ e ∈ es, EQ e.key false) ∨ ∃ (j : Nat) (e : MapEntry) (v : V), r = some v ∧ es[j]? = some e ∧ EQ e.key true ∧ (∀ (i : Nat) (e' : MapEntry), i < j → es[i]? = some e' → EQ e'.key false) ∧ RV c v e.val
  | [], es, r, h, hx => by
    simp only [mfind, Option.some.injEq] at h
    simp only [RVl, List.map_eq_nil_iff] at hx
    subst h; subst hx
    exact .inl ⟨rfl, by simp⟩
  | x :: xs, es, r, h, hx => by
    simp only [RVl] at hx
    obtain ⟨u, q, he, h1, h2⟩ := hx
    cases es with
    | nil => simp at he
    | cons e es =>
      simp only [List.map_cons, List.cons.injEq] at he
      obtain ⟨rfl, rfl⟩ := he
      unfold mfind at h
      split at h
      · rename_i heq; cases heq
      · rename_i k v r' heq
        cases heq
        obtain ⟨hk, hv⟩ := ent_RV.1 h1
        split at h
        · rename_i hb
          cases h
          exact .inr ⟨0, e, v, rfl, rfl, hEQ _ _ _ hb hk, by simp, hv⟩
        · rename_i hb
          rcases hit_of hEQ xs es r h h2 with ⟨g1, g2⟩ | ⟨j, e', v', g1, g2, g3, g4, g5⟩
          · refine .inl ⟨g1, fun z hz => ?_⟩
            rcases List.mem_cons.1 hz with rfl | hz
            · exact hEQ _ _ _ hb hk
            · exact g2 z hz
          · refine .inr ⟨j + 1, e', v', g1, by simpa using g2, g3, fun i z hi hz => ?_, g5⟩
            cases i with
            | zero => simp at hz; subst hz; exact hEQ _ _ _ hb hk
            | succ i => exact g4 i z (by omega) (by simpa using hz)
        · cases h
      · cases h

theorem put_of {c : Ctx} {key v : V} {EQ : Value → Bool → Prop} (hEQ : ∀ kx vx b, keyB key kx = some b → RV c kx vx → EQ vx b) : ∀ (xs : List V) (es : List MapEntry) (ys : List V), mput key v xs = some ys → RVl c xs (es.map ent) →
    (ys = xs ++ [.tup [key, v]] ∧ ∀ e ∈ es, EQ e.key false) ∨ ∃ (j : Nat) (e : MapEntry), es[j]? = some e ∧ EQ e.key true ∧ (∀ (i : Nat) (e' : MapEntry), i < j → es[i]? = some e' → EQ e'.key false) ∧ ys = xs.set j (.tup [key, v])
  | [], es, ys, h, hx => by
    simp only [mput, Option.some.injEq] at h
    simp only [RVl, List.map_eq_nil_iff] at hx
    subst h; subst hx
    exact .inl ⟨rfl, by simp⟩
  | x :: xs, es, ys, h, hx => by
    simp only [RVl] at hx
    obtain ⟨u, q, he, h1, h2⟩ := hx
    cases es with
    | nil => simp at he
    | cons e es =>
      simp only [List.map_cons, List.cons.injEq] at he
      obtain ⟨rfl, rfl⟩ := he
      unfold mput at h
      split at h
      · rename_i heq; cases heq
      · rename_i k v0 r' heq
        cases heq
        obtain ⟨hk, hv⟩ := ent_RV.1 h1
        split at h
        · rename_i hb
          cases h
          exact .inr ⟨0, e, rfl, hEQ _ _ _ hb hk, by simp, rfl⟩
        · rename_i hb
          obtain ⟨l, hl, rfl⟩ := Option.map_eq_some_iff.1 h
          rcases put_of hEQ xs es l hl h2 with ⟨g1, g2⟩ | ⟨j, e', g2, g3, g4, g5⟩
          · refine .inl ⟨by rw [g1]; rfl, fun z hz => ?_⟩
            rcases List.mem_cons.1 hz with rfl | hz
            · exact hEQ _ _ _ hb hk
            · exact g2 z hz
          · refine .inr ⟨j + 1, e', by simpa using g2, g3, fun i z hi hz => ?_, by rw [g5]; rfl⟩
            cases i with
            | zero => simp at hz; subst hz; exact hEQ _ _ _ hb hk
            | succ i => exact g4 i z (by omega) (by simpa using hz)
        · cases h
      · cases h

theorem findNow_none {d : TypeDesc} {kv : Value} : ∀ (es : List MapEntry) (i : Nat), (∀ e ∈ es, Instr.sameNow d kv e.key = some false) → Instr.findNow d kv es i = some none
  | [], i, _ => rfl
  | e :: es, i, h => by
    simp only [Instr.findNow, h e (by simp)]
    exact findNow_none es (i + 1) fun z hz => h z (by simp [hz])
theorem findNow_at {d : TypeDesc} {kv : Value} : ∀ (es : List MapEntry) (i j : Nat) (e : MapEntry), es[j]? = some e → Instr.sameNow d kv e.key = some true → (∀ k e', k < j → es[k]? = some e' → Instr.sameNow d kv e'.key = some false) → Instr.findNow d kv es i = some (some (i + j, e.val))
  | [], i, j, e, h, _, _ => by simp at h
  | x :: es, i, 0, e, h, h1, _ => by
    simp at h; subst h
    simp [Instr.findNow, h1]
  | x :: es, i, j + 1, e, h, h1, h2 => by
    simp only [Instr.findNow, h2 0 x (by omega) rfl]
    rw [findNow_at es (i + 1) j e (by simpa using h) h1 fun k e' hk he => h2 (k + 1) e' (by omega) (by simpa using he)]
    simp; omega

theorem findAsking_none {K : TypeId} {kv : Value} (w : World) : ∀ (es : List MapEntry) (i : Nat), (∀ e ∈ es, (Op.equal K kv e.key).run P w = .ok false w) → (Instr.findAsking K kv es i).run P w = .ok none w
  | [], i, _ => rfl
  | e :: es, i, h => by
    simp only [Instr.findAsking, Sem.run_bind, h e (by simp), Result.andThen_ok, Bool.false_eq_true, if_false]
    exact findAsking_none w es (i + 1) fun z hz => h z (by simp [hz])
theorem findAsking_at {K : TypeId} {kv : Value} (w : World) : ∀ (es : List MapEntry) (i j : Nat) (e : MapEntry), es[j]? = some e → (Op.equal K kv e.key).run P w = .ok true w → (∀ k e', k < j → es[k]? = some e' → (Op.equal K kv e'.key).run P w = .ok false w) → (Instr.findAsking K kv es i).run P w = .ok (some (i + j, e.val)) w
  | [], i, j, e, h, _, _ => by simp at h
  | x :: es, i, 0, e, h, h1, _ => by
    simp at h; subst h
    simp [Instr.findAsking, h1]
  | x :: es, i, j + 1, e, h, h1, h2 => by
    simp only [Instr.findAsking, Sem.run_bind, h2 0 x (by omega) rfl, Result.andThen_ok, Bool.false_eq_true, if_false]
    rw [findAsking_at w es (i + 1) j e (by simpa using h) h1 fun k e' hk he => h2 (k + 1) e' (by omega) (by simpa using he)]
    simp; omega

/-- What is asked of two keys. -/
def KeyEq (P : Program) (w : World) (K : TypeId) (kv v : Value) (b : Bool) : Prop :=
  (b = true → Instr.sameBits 10000 v kv = true) ∧
  ((∃ d, P.underlying K = some d ∧ Instr.sameNow d kv v = some b) ∨
   (∃ n e, P.underlying K = some (.array n e) ∧ (Op.equal K kv v).run P w = .ok b w))

theorem keyEq_of {c : Ctx} {T K E' : TypeId} {bk : Bool} (hT : mapOf P T = some (bk, K, E')) {key kx : V} {kv vx : Value} {b : Bool} (hf : keyF bk key = true) (h : keyB key kx = some b) (hk : RV c key kv) (hx : RV c kx vx) : KeyEq P w K kv vx b := by
  unfold mapOf at hT
  split at hT
  · rename_i K' E'' hu
    split at hT
    · rename_i kk hK
      cases hT
      cases key <;> simp only [keyF, Bool.false_eq_true] at hf
      cases kx <;> simp only [keyB, reduceCtorEq] at h
      split at h
      · rename_i hkk
        subst hkk
        cases h
        simp only [RV] at hk hx
        obtain ⟨rfl, _⟩ := hk
        obtain ⟨rfl, _⟩ := hx
        refine ⟨fun h => ?_, .inl ⟨_, hK, by simp [Instr.sameNow]⟩⟩
        rw [show (10000 : Nat) = 9999 + 1 from rfl]
        simp at h
        simp [Instr.sameBits, h]
      · cases h
    · rename_i e hK
      split at hT
      · rename_i kk he
        split at hT
        · rename_i hc
          cases hT
          cases key <;> simp only [keyF, Bool.false_eq_true] at hf
          unfold keyB at h
          split at h
          · exact absurd ‹V.agg _ = V.int _ _› (by simp)
          · rename_i k1 a1 j1 b1 k2 a2 j2 b2 h1
            cases h1
            split at h
            · rename_i hkk
              obtain ⟨rfl, rfl⟩ := hkk
              cases h
              simp only [RV, RVl] at hk hx
              obtain ⟨cv, rfl, ⟨u1, r1, h1, ⟨rfl, _⟩, u2, r2, h2, ⟨rfl, _⟩, h3⟩, _⟩ := hk
              obtain ⟨dv, rfl, ⟨v1, s1, g1, ⟨rfl, _⟩, v2, s2, g2, ⟨rfl, _⟩, g3⟩, _⟩ := hx
              subst h3; subst h2; subst g3; subst g2
              have e1 : cv = #[.int k1 a1, .int j1 b1] := by apply Array.ext'; simpa using h1
              have e2 : dv = #[.int k1 a2, .int j1 b2] := by apply Array.ext'; simpa using g1
              subst e1; subst e2
              refine ⟨fun h => ?_, .inr ⟨_, _, hK, ?_⟩⟩
              · rw [show (10000 : Nat) = 9999 + 1 from rfl]
                simp at h
                simp [Instr.sameBits, h]
              · have hi : ∃ i, P.info? e = some i := by
                  unfold Program.cellsOf at hc
                  cases hq : P.info? e with
                  | none => simp [hq] at hc
                  | some i => exact ⟨i, rfl⟩
                obtain ⟨i, hi⟩ := hi
                have hag : ∀ w, (isAgg e).run P w = .ok false w := fun w => isRow_run (by simp [isRowT, he]) w
                unfold Op.equal
                rw [show Op.maxDepth = 9999 + 1 from rfl, run_equalIn_array w 9999 _ _ hK hi]
                have q1 : ∀ (m : Nat) (v : Value) (cs : Array Value), cs[m]? = some v → (part e cs m).run P w = .ok v w := fun m v cs hm => by
                  simp [part, hag, hm]
                have q2 := run_equalIn_int (P := P) w 9998 e k1 kk a1 a2 he
                have q3 := run_equalIn_int (P := P) w 9998 e j1 kk b1 b2 he
                have hr : List.range 2 = [0, 1] := by decide
                have p1 : (part e #[Value.int k1 a1, .int j1 b1] 1).run P w = .ok (.int j1 b1) w := q1 1 _ _ rfl
                have p2 : (part e #[Value.int k1 a2, .int j1 b2] 1).run P w = .ok (.int j1 b2) w := q1 1 _ _ rfl
                rw [hr]
                simp only [Op.eqItems, hc, Sem.run_bind, q1 0 _ _ (show (#[Value.int k1 a1, .int j1 b1])[0 * 1]? = some (.int k1 a1) from rfl), q1 0 _ _ (show (#[Value.int k1 a2, .int j1 b2])[0 * 1]? = some (.int k1 a2) from rfl),
                  q1 1 _ _ (show (#[Value.int k1 a1, .int j1 b1])[1 * 1]? = some (.int j1 b1) from rfl), q1 1 _ _ (show (#[Value.int k1 a2, .int j1 b2])[1 * 1]? = some (.int j1 b2) from rfl), Result.andThen_ok]
                rw [show (9999 : Nat) = 9998 + 1 from rfl]
                simp only [q2, Result.andThen_ok]
                by_cases hab : a1 = a2
                · subst hab
                  simp [q3, p1, p2]
                  by_cases hbb : b1 = b2
                  · subst hbb; simp
                  · simp [hbb]
                · simp [hab]
            · cases h
          · cases h
        · cases hT
      · cases hT
    · cases hT
  · cases hT

theorem keyEq_notboth {K : TypeId} {d : TypeDesc} {n e : Nat} (h1 : P.underlying K = some d) (h2 : P.underlying K = some (.array n e)) {kv v : Value} {b : Bool} : Instr.sameNow d kv v ≠ some b := by
  rw [h1] at h2; cases h2
  simp [Instr.sameNow]

/-- A key is sought. -/
theorem findKey_run {K : TypeId} {kv : Value} {es : List MapEntry} (hK : ∃ d, P.underlying K = some d ∧ ((∃ k, d = .int k) ∨ ∃ n e, d = .array n e)) :
    ((∀ e ∈ es, KeyEq P w K kv e.key false) → (Instr.findKey K kv es).run P w = .ok none w) ∧
    (∀ (j : Nat) (e : MapEntry), es[j]? = some e → KeyEq P w K kv e.key true → (∀ (i : Nat) (e' : MapEntry), i < j → es[i]? = some e' → KeyEq P w K kv e'.key false) → (Instr.findKey K kv es).run P w = .ok (some (j, e.val)) w) := by
  obtain ⟨d, hd, hk⟩ := hK
  rcases hk with ⟨k, rfl⟩ | ⟨n, e, rfl⟩
  · have key : ∀ {v b}, KeyEq P w K kv v b → Instr.sameNow (.int k) kv v = some b := fun {v b} h => by
      rcases h.2 with ⟨d, h1, h2⟩ | ⟨n, e, h1, _⟩
      · rw [hd] at h1; cases h1; exact h2
      · rw [hd] at h1; cases h1
    constructor
    · intro h
      simp [Instr.findKey, run_underlying hd, findNow_none es 0 fun e he => key (h e he)]
    · intro j e he h1 h2
      have := findNow_at es 0 j e he (key h1) fun i e' hi he' => key (h2 i e' hi he')
      rw [Nat.zero_add] at this
      simp [Instr.findKey, run_underlying hd, this]
  · have key : ∀ {v b}, KeyEq P w K kv v b → (Op.equal K kv v).run P w = .ok b w := fun {v b} h => by
      rcases h.2 with ⟨d, h1, h2⟩ | ⟨n, e, h1, h2⟩
      · exact absurd h2 (keyEq_notboth h1 hd)
      · exact h2
    have asks : es ≠ [] → (Instr.findKey K kv es).run P w = (Instr.findAsking K kv es).run P w := fun hne => by
      cases es with
      | nil => exact absurd rfl hne
      | cons e es => simp [Instr.findKey, run_underlying hd, Instr.findNow, Instr.sameNow]
    constructor
    · intro h
      by_cases hes : es = []
      · subst hes
        simp [Instr.findKey, run_underlying hd, Instr.findNow]
      · rw [asks hes]
        exact findAsking_none w es 0 fun e he => key (h e he)
    · intro j e he h1 h2
      rw [asks (by rintro rfl; simp at he)]
      have := findAsking_at w es 0 j e he (key h1) fun i e' hi he' => key (h2 i e' hi he')
      rwa [Nat.zero_add] at this

theorem mapOf_spec {T K E' : TypeId} {bk : Bool} (hT : mapOf P T = some (bk, K, E')) : P.underlying T = some (.map K E') ∧ ∃ d, P.underlying K = some d ∧ ((bk = false ∧ ∃ k, d = .int k) ∨ (bk = true ∧ ∃ e k, d = .array 2 e ∧ P.underlying e = some (.int k) ∧ P.cellsOf e = 1)) := by
  unfold mapOf at hT
  split at hT
  · rename_i K' E'' hu
    split at hT
    · rename_i kk hK
      cases hT
      exact ⟨hu, _, hK, .inl ⟨rfl, kk, rfl⟩⟩
    · rename_i e hK
      split at hT
      · rename_i kk he
        split at hT
        · rename_i hc
          cases hT
          exact ⟨hu, _, hK, .inr ⟨rfl, e, kk, rfl, he, hc⟩⟩
        · cases hT
      · cases hT
    · cases hT
  · cases hT

theorem checkKey_int (em : Bool) (n : Nat) {K : TypeId} {k k' : IntKind} {m : Int} (hd : P.underlying K = some (.int k)) : (Instr.checkKey em (n + 1) K (.int k' m)).run P w = .ok () w := by
  simp [Instr.checkKey, run_underlying hd]
theorem checkKey_pair (em : Bool) (n : Nat) {K e : TypeId} {k : IntKind} {x y : Value} (hd : P.underlying K = some (.array 2 e)) (he : P.underlying e = some (.int k)) (hc : P.cellsOf e = 1) (h1 : ∃ k m, x = .int k m) (h2 : ∃ k m, y = .int k m) : (Instr.checkKey em (n + 1 + 1) K (.agg #[x, y])).run P w = .ok () w := by
  have hag : ∀ w, (isAgg e).run P w = .ok false w := fun w => isRow_run (by simp [isRowT, he]) w
  have hsz : (sizeOf e).run P w = .ok 1 w := by have := cellsOf_run (P := P) (T := e) (by omega) w; rwa [hc] at this
  obtain ⟨k1, a1, rfl⟩ := h1
  obtain ⟨k2, a2, rfl⟩ := h2
  have q2 : ∀ k a, (Instr.checkKey em (n + 1) e (.int k a)).run P w = .ok () w := fun k a => checkKey_int em n he
  have p0 : (part e #[Value.int k1 a1, .int k2 a2] 0).run P w = .ok (.int k1 a1) w := by simp [part, hag]
  have p1 : (part e #[Value.int k1 a1, .int k2 a2] 1).run P w = .ok (.int k2 a2) w := by simp [part, hag]
  rw [Instr.checkKey]
  simp only [Sem.run_bind, run_underlying hd, Result.andThen_ok]
  simp only [Std.Legacy.Range.forIn_eq_forIn_range', Std.Legacy.Range.size, Nat.sub_zero, Nat.add_one_sub_one, Nat.div_one]
  rw [show List.range' 0 2 1 = [0, 1] from rfl]
  simp [hsz, p0, p1, q2]

theorem checkKey_run {c : Ctx} {T K E' : TypeId} {bk : Bool} (hT : mapOf P T = some (bk, K, E')) {key : V} {kv : Value} (hf : keyF bk key = true) (hk : RV c key kv) (em : Bool) :
    (Instr.checkKey em 10000 K kv).run P w = .ok () w := by
  obtain ⟨_, d, hd, h⟩ := mapOf_spec hT
  rcases h with ⟨rfl, k, rfl⟩ | ⟨rfl, e, k, rfl, he, hc⟩
  · cases key <;> simp only [keyF, Bool.false_eq_true] at hf
    simp only [RV] at hk
    obtain ⟨rfl, _⟩ := hk
    exact checkKey_int em 9999 hd
  · have hlen : ∃ k1 a1 j1 b1, key = .agg [.int k1 a1, .int j1 b1] := by
      unfold keyF at hf
      split at hf
      · cases ‹true = false›
      · exact ⟨_, _, _, _, rfl⟩
      · cases hf
    obtain ⟨k1, a1, j1, b1, rfl⟩ := hlen
    simp only [RV, RVl] at hk
    obtain ⟨cv, rfl, ⟨u1, r1, h1, ⟨rfl, _⟩, u2, r2, h2, ⟨rfl, _⟩, h3⟩, _⟩ := hk
    subst h3; subst h2
    have e1 : cv = #[.int k1 a1, .int j1 b1] := by apply Array.ext'; simpa using h1
    subst e1
    exact checkKey_pair em 9998 hd he hc ⟨_, _, rfl⟩ ⟨_, _, rfl⟩

/-- What stands behind a map's name. -/
theorem map_laid (hr : Rel E s a w η) {x : Operand} {id : Nat} {ob : Obj} (hx : s.ev x = .mp id) (hid : s.hp id = some ob) :
    ob.k = .map ∧ s.kn id ∧ 0 < ob.e ∧ ob.xs.length ≤ 140737488355328 ∧ ∃ r es clk, a.eval x = .map (some r) ∧ η id = .map (some r) ∧ w.heap[r]? = some (.map es clk) ∧ RVl (s.ctx E w η) ob.xs (es.toList.map ent) := by
  have h := ev_sound hr x
  rw [hx] at h
  simp only [RV] at h
  obtain ⟨_, _, hkn, h⟩ := h
  simp only [FSt.ctx, hid] at h
  obtain ⟨hp, _, hlen, ⟨us, r1, r2⟩, _⟩ := hr.laid.obj id ob hid
  unfold RowAt at r2
  rw [if_pos h.1] at r2
  obtain ⟨r, es, clk, h1, h2, h3⟩ := r2
  subst h3
  have hro : decide (ob.k = Kind.ro) = false := by rw [h.1]; rfl
  rw [hro] at r1
  exact ⟨h.1, hkn, hp, hlen, r, es, clk, h.2.trans h1, h1, h2, r1⟩

theorem s_makeMap (hr : Rel E s a w η) {fid : Nat} {T K E' : TypeId} {bk : Bool} (ho : o.op = .makeMap T none) (hT : mapOf P T = some (bk, K, E')) (hf : ¬ s.kn fid) : Done P E s a w o ⟨.mp fid, [(fid, ⟨.map, T, 1, []⟩)], []⟩ := by
  have hrun : (execOp a.eval o).run P w = .ok (.value (.map (some w.heap.size))) (w.alloc (.map #[] 0)) := by
    unfold execOp
    simp [ho, Instr.makeMap]
  have L := hr.layG (w' := w.alloc (.map #[] 0)) fid ⟨.map, T, 1, []⟩ (.map (some w.heap.size)) none (World.grownBy_alloc w _ none) (.inl ⟨hf, rfl⟩) (by simp) (by simp) (by simp)
    (fun b hb => by simp [blk] at hb; exact .inl (by omega)) (by simp) [] (by simp [RVl]) (by
      unfold RowAt
      simp only [if_true]
      exact ⟨_, #[], 0, rfl, by show (w.heap.push _)[w.heap.size]? = _; simp, by simp⟩)
  have := L.put o.dst (x := .mp fid) (v := .map (some w.heap.size)) (by
    simp only [RV, FSt.ctx]
    exact ⟨⟨_, rfl⟩, trivial, .inl trivial, by simp⟩)
  rw [← FSt.app_one s o.dst (.mp fid) fid _ []] at this
  exact ⟨_, _, _, hrun, .inl ⟨_, rfl, this⟩⟩

theorem s_lookup (hr : Rel E s a w η) {T K E' : TypeId} {bk : Bool} {x i : Operand} (ho : o.op = .lookup T x i false) {id : Nat} {ob : Obj} {z v : V} {rd : List Nat} (hx : s.ev x = .mp id) (hid : s.hp id = some ob) (hT : mapOf P T = some (bk, K, E'))
    (hz : zeroV P E' = some z) (hv : mlook z (s.ev i) ob.xs = some v) (hf : keyF bk (s.ev i) = true) : Done P E s a w o ⟨v, [], rd⟩ := by
  obtain ⟨hk, _, _, hlen, r, es, clk, hxv, hη, hw, hes⟩ := map_laid hr hx hid
  obtain ⟨hu, d, hd, hdd⟩ := mapOf_spec hT
  have hiv := ev_sound hr i
  generalize s.ev i = key at *
  generalize hkv : a.eval i = kv at *
  have hck := fun em => checkKey_run (P := P) (w := w) hT hf hiv em
  obtain ⟨fr, hm, rfl⟩ := Option.map_eq_some_iff.1 hv
  have hfk := findKey_run (P := P) (w := w) (K := K) (kv := kv) (es := es.toList) ⟨d, hd, by rcases hdd with ⟨_, k, h⟩ | ⟨_, e, k, h, _⟩; (exact .inl ⟨_, h⟩); (exact .inr ⟨_, _, h⟩)⟩
  have hg : (getObj r).run P w = .ok (.map es clk) w := by simp [getObj, Sem.run, hw]
  rcases hit_of (EQ := KeyEq P w K kv) (fun kx vx b hb hx => keyEq_of hT hf hb hiv hx) _ _ _ hm hes with ⟨rfl, h2⟩ | ⟨j, e, v', rfl, h2, h3, h4, h5⟩
  · unfold zeroV at hz
    cases hinf : P.info? E' with
    | none => simp [hinf] at hz
    | some inf =>
      cases hzz : inf.zero with
      | none => simp [hinf, hzz] at hz
      | some zv =>
        simp only [hinf, Option.bind_some, hzz, Option.some.injEq] at hz
        subst hz
        refine Done.val hr (v := zv) (cst_RV (c := s.ctx E w η) rfl zv) ?_
        have hzr : (zeroValue E').run P w = .ok zv w := by simp [zeroValue, typeInfo, hinf, hzz]
        unfold execOp
        simp [ho, hxv, hkv, Instr.lookup, run_underlying hu, hg, hck, hfk.1 h2, hzr]
  · refine Done.val hr (v := e.val) h5 ?_
    unfold execOp
    simp [ho, hxv, hkv, Instr.lookup, run_underlying hu, hg, hck, hfk.2 j e h2 h3 h4]

theorem s_mapUpdate (hr : Rel E s a w η) {T K E' : TypeId} {bk : Bool} {x i y : Operand} (ho : o.op = .mapUpdate T x i y) {id : Nat} {ob : Obj} {ys : List V} {rd : List Nat} (hx : s.ev x = .mp id) (hid : s.hp id = some ob) (hT : mapOf P T = some (bk, K, E'))
    (hv : mput (s.ev i) (s.ev y) ob.xs = some ys) (hf : keyF bk (s.ev i) = true) (hlen1 : ob.xs.length + 1 ≤ 140737488355328) : Done P E s a w o ⟨.tup [], [(id, { ob with xs := ys })], rd⟩ := by
  obtain ⟨hk, hkn, hpos, hlen, r, es, clk, hxv, hη, hw, hes⟩ := map_laid hr hx hid
  obtain ⟨hu, d, hd, hdd⟩ := mapOf_spec hT
  have hiv := ev_sound hr i
  have hyv := ev_sound hr y
  generalize s.ev i = key at *
  generalize s.ev y = Y at *
  generalize hkv : a.eval i = kv at *
  generalize hyvv : a.eval y = yv at *
  have hck := fun em => checkKey_run (P := P) (w := w) hT hf hiv em
  have hfk := findKey_run (P := P) (w := w) (K := K) (kv := kv) (es := es.toList) ⟨d, hd, by rcases hdd with ⟨_, k, h⟩ | ⟨_, e, k, h, _⟩; (exact .inl ⟨_, h⟩); (exact .inr ⟨_, _, h⟩)⟩
  have hg : (getObj r).run P w = .ok (.map es clk) w := by simp [getObj, Sem.run, hw]
  have fin : ∀ (es' : Array MapEntry) (clk' : Nat), (execOp a.eval o).run P w = .ok .skip (putO w r (.map es' clk')) → RVl (s.ctx E w η) ys (es'.toList.map ent) → ob.xs.length ≤ ys.length → ys.length ≤ 140737488355328 → Done P E s a w o ⟨.tup [], [(id, { ob with xs := ys })], rd⟩ := by
    intro es' clk' hrun hrv hl1 hl2
    have L := hr.layG (w' := putO w r (.map es' clk')) id { ob with xs := ys } (η id) (blk (η id)) (by rw [hη]; exact putO_grown w r _)
      (.inr ⟨ob, hid, by rw [hk]; simp, rfl, rfl, Iff.rfl, fun _ => rfl, hl1, fun _ => rfl⟩) (by simp [hk]) hpos hl2 (fun b hb => .inr hb) (by simp [hk]) (es'.toList.map ent) hrv (by
        unfold RowAt
        simp only [hk, if_true]
        exact ⟨r, es', clk', hη, putO_same (Array.getElem?_eq_some_iff.1 hw).1, rfl⟩)
    have hηs : (fun i => if i = id then η id else η i) = η := by funext i; split <;> simp_all
    have := L.put o.dst (x := .tup []) (v := undef) (by simp only [RV]; exact ⟨#[], rfl, by simp [RVl]⟩)
    rw [← FSt.app_one s o.dst (.tup []) id _ rd] at this
    exact ⟨_, _, _, hrun, .inr ⟨rfl, this⟩⟩
  have hes0 := hes
  have hset : ∀ o', (setObj r o').run P w = .ok () (putO w r o') := fun o' => by simp [setObj, Sem.run, hw, putO]
  rcases put_of (EQ := KeyEq P w K kv) (fun kx vx b hb hx => keyEq_of hT hf hb hiv hx) _ _ _ hv hes with ⟨rfl, h2⟩ | ⟨j, e, h2, h3, h4, rfl⟩
  · refine fin (es.push { key := kv, val := yv, born := clk }) (clk + 1) ?_ ?_ (by simp) (by simpa using hlen1)
    · unfold execOp
      simp [ho, hxv, hkv, hyvv, Instr.mapUpdate, run_underlying hu, hg, hck, hfk.1 h2, hset]
    · simp only [Array.toList_push, List.map_append, List.map_cons, List.map_nil]
      refine RVl_append hes0 ?_
      simp only [RVl]
      exact ⟨_, [], rfl, ent_RV.2 ⟨hiv, hyv⟩, rfl⟩
  · have hjl := (List.getElem?_eq_some_iff.1 h2).1
    have hes' : es.size = es.toList.length := by simp
    have hej : es[j]? = some e := by simpa using h2
    refine fin (es.modify j fun e => { e with key := kv, val := yv }) clk ?_ ?_ (by simp) (by simpa using hlen)
    · have hkt : (Instr.keyThatStays e.key kv).run P w = .ok kv w := by simp [Instr.keyThatStays, h3.1 rfl]
      unfold execOp
      simp [ho, hxv, hkv, hyvv, Instr.mapUpdate, run_underlying hu, hg, hck, hfk.2 j e h2 h3 h4, hset, hej, hkt]
    · have : (es.modify j fun e => { e with key := kv, val := yv }).toList.map ent = (es.toList.map ent).set j (ent { e with key := kv, val := yv }) := by
        apply List.ext_getElem?
        intro n
        simp only [Array.toList_modify, List.getElem?_map, List.getElem?_set, List.length_map, List.getElem?_modify]
        by_cases hn : j = n
        · subst hn
          simp [hej]
          simpa using hjl
        · simp [hn]
      rw [this]
      exact RVl_set hes0 (ent_RV.2 ⟨hiv, hyv⟩)
end
end Go.AM
