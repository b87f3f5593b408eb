/- Regions of operations over the abstract states: in the text's order, and in whatever order the edges allow. -/
import Derived.Test.YtdeionjkcmpnpaaDoorAmCore
set_option linter.unusedSimpArgs false
set_option linter.unusedVariables false
namespace Go.AM
open Go.RowKit

structure Eff where
  val : V
  upd : List (Nat × Obj)
  rd : List Nat

def updHp : List (Nat × Obj) → Heap → Heap
  | [], h => h
  | (i, o) :: r, h => fun k => if k = i then some o else updHp r h k

def Eff.ids (e : Eff) : List Nat := e.upd.map (·.1)

def FSt.app (s : FSt) (d : Option Tmp) (e : Eff) : FSt :=
  { (s.put d e.val) with hp := updHp e.upd s.hp, kn := fun i => i ∈ e.ids ∨ s.kn i }

theorem FSt.put_hp (s : FSt) (d : Option Tmp) (x : V) : (s.put d x).hp = s.hp := by unfold FSt.put; (repeat' split) <;> rfl
theorem FSt.put_kn (s : FSt) (d : Option Tmp) (x : V) : (s.put d x).kn = s.kn := by unfold FSt.put; (repeat' split) <;> rfl
theorem FSt.put_N (s : FSt) (d : Option Tmp) (x : V) : (s.put d x).N = s.N := by unfold FSt.put; (repeat' split) <;> rfl
theorem FSt.put_gl (s : FSt) (d : Option Tmp) (x : V) : (s.put d x).gl = s.gl := by unfold FSt.put; (repeat' split) <;> rfl
theorem FSt.put_nb (s : FSt) (d : Option Tmp) (x : V) : (s.put d x).nb = s.nb := by unfold FSt.put; (repeat' split) <;> rfl
theorem FSt.put_sl (s : FSt) (d : Option Tmp) (x : V) (t : Nat) : (s.put d x).sl t = if d = some t ∧ t < s.N then x else s.sl t := by
  unfold FSt.put
  cases d with
  | none => simp
  | some d =>
    by_cases hd : d < s.N
    · simp only [hd, if_true, Option.some.injEq]
      by_cases h : t = d
      · subst h; simp [hd]
      · simp [h, Ne.symm h]
    · simp only [hd, if_false, Option.some.injEq]
      by_cases h : d = t
      · subst h; simp [hd]
      · simp [h]

theorem updHp_not (l : List (Nat × Obj)) (h : Heap) (k : Nat) (hk : k ∉ l.map (·.1)) : updHp l h k = h k := by
  induction l with
  | nil => rfl
  | cons p r ih =>
    simp only [List.map_cons, List.mem_cons, not_or] at hk
    simp only [updHp, hk.1, if_false]
    exact ih hk.2

theorem updHp_comm (l r : List (Nat × Obj)) (h : Heap) (hd : ∀ k, k ∈ l.map (·.1) → k ∉ r.map (·.1)) : updHp l (updHp r h) = updHp r (updHp l h) := by
  funext k
  by_cases h1 : k ∈ l.map (·.1)
  · have h2 := hd k h1
    rw [updHp_not r _ k h2]
    clear hd h2
    induction l with
    | nil => simp at h1
    | cons p l ih =>
      simp only [updHp]
      by_cases hp : k = p.1
      · simp [hp]
      · simp only [hp, if_false]
        exact ih (by simpa [hp] using h1)
  · rw [updHp_not l _ k h1]
    by_cases h2 : k ∈ r.map (·.1)
    · clear hd
      induction r with
      | nil => simp at h2
      | cons p r ih =>
        simp only [updHp]
        by_cases hp : k = p.1
        · simp [hp]
        · simp only [hp, if_false]
          exact ih (by simpa [hp] using h2)
    · rw [updHp_not r _ k h2, updHp_not r _ k h2, updHp_not l _ k h1]

theorem FSt.app_comm (s : FSt) (d1 d2 : Option Tmp) (e1 e2 : Eff) (hd : ∀ t, d1 = some t → d2 ≠ some t) (hi : ∀ k, k ∈ e1.ids → k ∉ e2.ids) :
    (s.app d1 e1).app d2 e2 = (s.app d2 e2).app d1 e1 := by
  have h1 : ((s.app d1 e1).app d2 e2).sl = ((s.app d2 e2).app d1 e1).sl := by
    funext t
    simp only [FSt.app, FSt.put_sl, FSt.put_N]
    by_cases a : d1 = some t
    · have := hd t a
      simp [a, this]
    · simp [a]
  have h2 : ((s.app d1 e1).app d2 e2).hp = ((s.app d2 e2).app d1 e1).hp := by
    simp only [FSt.app]
    exact updHp_comm _ _ _ (fun k hk h => hi k h hk)
  have h3 : ((s.app d1 e1).app d2 e2).kn = ((s.app d2 e2).app d1 e1).kn := by
    funext k
    simp only [FSt.app]
    exact propext ⟨fun h => by rcases h with h | h | h <;> simp [h], fun h => by rcases h with h | h | h <;> simp [h]⟩
  have h4 : ((s.app d1 e1).app d2 e2).N = ((s.app d2 e2).app d1 e1).N := by simp only [FSt.app, FSt.put_N]
  have h5 : ((s.app d1 e1).app d2 e2).nb = ((s.app d2 e2).app d1 e1).nb := by simp only [FSt.app, FSt.put_nb]
  have h6 : ((s.app d1 e1).app d2 e2).gl = ((s.app d2 e2).app d1 e1).gl := by simp only [FSt.app, FSt.put_gl]
  generalize (s.app d1 e1).app d2 e2 = x at *
  generalize (s.app d2 e2).app d1 e1 = y at *
  cases x; cases y
  simp_all

structure Same (ts : List Tmp) (ids : List Nat) (s s' : FSt) : Prop where
  sl : ∀ t ∈ ts, s'.sl t = s.sl t
  hp : ∀ i ∈ ids, s'.hp i = s.hp i
  kn : ∀ i ∈ ids, s'.kn i ↔ s.kn i
  N : s'.N = s.N
  gl : s'.gl = s.gl
  nb : s'.nb = s.nb

def Indep (e1 e2 : Eff) : Prop := (∀ k, k ∈ e1.ids → k ∉ e2.rd ∧ k ∉ e2.ids) ∧ (∀ k, k ∈ e2.ids → k ∉ e1.rd ∧ k ∉ e1.ids)

theorem Same.app {ts : List Tmp} {e : Eff} (s : FSt) (d : Option Tmp) (e' : Eff) (hd : ∀ t, d = some t → t ∉ ts) (hi : ∀ k, k ∈ e'.ids → k ∉ e.rd ∧ k ∉ e.ids) :
    Same ts (e.rd ++ e.ids) s (s.app d e') := by
  have hn : ∀ i, i ∈ e.rd ++ e.ids → i ∉ e'.ids := fun i hi' h => by
    have := hi i h
    simp [this] at hi'
  refine ⟨fun t ht => ?_, fun i hi' => ?_, fun i hi' => ?_, by simp [FSt.app, FSt.put_N], by simp [FSt.app, FSt.put_gl], by simp [FSt.app, FSt.put_nb]⟩
  · simp only [FSt.app, FSt.put_sl]
    have : d ≠ some t := fun h => hd t h ht
    simp [this]
  · simp only [FSt.app]; exact updHp_not _ _ _ (hn i hi')
  · simp only [FSt.app]
    exact ⟨fun h => h.resolve_left (hn i hi'), .inr⟩

theorem Same.symm {ts ids} {s s' : FSt} (h : Same ts ids s s') : Same ts ids s' s :=
  ⟨fun t ht => (h.sl t ht).symm, fun i hi => (h.hp i hi).symm, fun i hi => (h.kn i hi).symm, h.N.symm, h.gl.symm, h.nb.symm⟩

/-- An operation's step: run as the model runs it, its guard asked. -/
def stepK (P : Program) (ops : Array Oper) (Q : Exit → Act → World → Prop) (o : Oper) (K : Act → World → Prop) (a : Act) (w : World) : Prop :=
  if Region.wanted o (yielded ops a.tmps) = true then o.wp P a w K Q else K (a.put o.dst undef) w

structure LawJ (P : Program) (ops : Array Oper) (E : Entry) (J : Nat → Oper → FSt → Eff → Prop) : Prop where
  sound : ∀ i o s e, J i o s e → ∀ a w η, Rel E s a w η → ∀ (K : Act → World → Prop) Q, (∀ a' w' η', Rel E (s.app o.dst e) a' w' η' → K a' w') → stepK P ops Q o K a w
  loc : ∀ i o s s' e, J i o s e → Same (o.looksAt ops) (e.rd ++ e.ids) s s' → J i o s' e

section
variable {P : Program} {ops : Array Oper} {E : Entry} {J : Nat → Oper → FSt → Eff → Prop} {τ : Nat → Eff} {md : Region.Mode}

def SeqT (J : Nat → Oper → FSt → Eff → Prop) (τ : Nat → Eff) : Nat → List Oper → FSt → (FSt → Prop) → Prop
  | _, [], s, K => K s
  | k, o :: l, s, K => J k o s (τ k) ∧ SeqT J τ (k + 1) l (s.app o.dst (τ k)) K

theorem wpOp_of_stepK {Q : Exit → Act → World → Prop} {i : Nat} {o : Oper} {a : Act} {w : World} {K : Act → World → Prop} (ho : ops[i]? = some o) (h : stepK P ops Q o K a w) : wpOp P ops Q i K a w := by
  unfold stepK at h
  unfold wpOp
  simp only [ho]
  split
  · rename_i hw; rw [if_pos hw] at h; exact .inl h
  · rename_i hw; rw [if_neg hw] at h; exact h

/-- In the text's order. -/
theorem seqT_sound (L : LawJ P ops E J) {Q : Exit → Act → World → Prop} {K : FSt → Prop} (hQ : ∀ s a w η, K s → Rel E s a w η → Q .normal a w) :
    ∀ (l : List Oper) (k : Nat) (s : FSt) (a : Act) (w : World) (η : Nat → Value), (∀ j, l[j]? = ops[k + j]?) → SeqT J τ k l s K → Rel E s a w η → wpOps P ops Q (List.range' k l.length) a w
  | [], k, s, a, w, η, _, h, hr => by simpa [wpOps] using hQ s a w η h hr
  | o :: l, k, s, a, w, η, hl, h, hr => by
    have h0 : ops[k]? = some o := by simpa using (hl 0).symm
    simp only [List.length_cons, List.range'_succ, wpOps_cons]
    refine wpOp_of_stepK h0 (L.sound k o s _ h.1 a w η hr _ Q fun a' w' η' hr' => ?_)
    exact seqT_sound L hQ l (k + 1) _ a' w' η' (fun j => by have := hl (j + 1); simpa [Nat.add_assoc, Nat.add_comm 1 j] using this) h.2 hr'

def StepT (J : Nat → Oper → FSt → Eff → Prop) (ops : Array Oper) (τ : Nat → Eff) (i : Nat) (s : FSt) : Prop := ∀ o, ops[i]? = some o → J i o s (τ i)
def appT (ops : Array Oper) (τ : Nat → Eff) (i : Nat) (s : FSt) : FSt := match ops[i]? with | none => s | some o => s.app o.dst (τ i)

def AnyT (J : Nat → Oper → FSt → Eff → Prop) (md : Region.Mode) (ops : Array Oper) (τ : Nat → Eff) (K : FSt → Prop) : Nat → Array Bool → FSt → Prop
  | 0, listed, s => Region.ready md ops listed = [] ∧ K s
  | fuel + 1, listed, s => (Region.ready md ops listed = [] → K s) ∧ ∀ i ∈ Region.ready md ops listed, StepT J ops τ i s ∧ AnyT J md ops τ K fuel (listed.setIfInBounds i true) (appT ops τ i s)

theorem anyT_sound (L : LawJ P ops E J) {Q : Exit → Act → World → Prop} {K : FSt → Prop} (hQ : ∀ s a w η, K s → Rel E s a w η → Q .normal a w) :
    ∀ (fuel : Nat) (listed : Array Bool) (s : FSt) (a : Act) (w : World) (η : Nat → Value), AnyT J md ops τ K fuel listed s → Rel E s a w η → wpAny P md ops Q fuel listed a w
  | 0, _, s, a, w, η, h, hr => ⟨h.1, hQ s a w η h.2 hr⟩
  | fuel + 1, listed, s, a, w, η, h, hr => by
    refine ⟨fun h0 => hQ s a w η (h.1 h0) hr, fun i hi => ?_⟩
    obtain ⟨hs, hn⟩ := h.2 i hi
    cases ho : ops[i]? with
    | none => 
      have := (mem_ready.1 hi).2
      simp [ho] at this
    | some o =>
      refine wpOp_of_stepK ho (L.sound i o s _ (hs o ho) a w η hr _ Q fun a' w' η' hr' => ?_)
      refine anyT_sound L hQ fuel _ _ a' w' η' hn ?_
      simpa [appT, ho] using hr'

/-- Two operations, the first one ahead of the second one in the text, whose order does not matter. -/
def Comm (J : Nat → Oper → FSt → Eff → Prop) (ops : Array Oper) (τ : Nat → Eff) (i j : Nat) : Prop :=
  (∀ k, k ∈ (τ i).ids → k ∉ (τ j).ids) ∧ ∀ oi oj s, ops[i]? = some oi → ops[j]? = some oj → oi.apart ops oj = true →
    (J j oj (s.app oi.dst (τ i)) (τ j) → J j oj s (τ j)) ∧ (J i oi s (τ i) → J i oi (s.app oj.dst (τ j)) (τ i))
theorem comm_of_indep (L : LawJ P ops E J) {i j : Nat} (h : Indep (τ i) (τ j)) : Comm J ops τ i j :=
  ⟨fun k hk => (h.1 k hk).2, fun oi oj s hi hj hap => by
    obtain ⟨a1, a2, a3⟩ := Oper.apart_spec hap
    exact ⟨fun hJ => L.loc j oj _ s _ hJ (Same.app s oi.dst (τ i) a1 h.1).symm, fun hJ => L.loc i oi s _ _ hJ (Same.app s oj.dst (τ j) a3 h.2)⟩⟩

/-- The operation j stands behind i: by an edge, or by several. -/
inductive Up (md : Region.Mode) (ops : Array Oper) (i : Nat) : Nat → Prop
  | one {j : Nat} {oj : Oper} {e : Edge} : ops[j]? = some oj → e ∈ oj.after → Region.binds md e = true → e.on = i → Up md ops i j
  | via {j : Nat} {oj : Oper} {e : Edge} : ops[j]? = some oj → e ∈ oj.after → Region.binds md e = true → Up md ops i e.on → Up md ops i j
/-- What is listed stands behind nothing that is not. -/
def ClL (md : Region.Mode) (ops : Array Oper) (listed : Array Bool) : Prop := ∀ m om, listed.getD m false = true → ops[m]? = some om → ∀ e ∈ om.after, Region.binds md e = true → listed.getD e.on false = true
theorem up_listed {listed : Array Bool} (h : ClL md ops listed) {i m : Nat} (hu : Up md ops i m) : listed.getD m false = true → listed.getD i false = true := by
  induction hu with
  | one h1 h2 h3 h4 => intro hm; rw [← h4]; exact h _ _ hm h1 _ h2 h3
  | via h1 h2 h3 _ ih => intro hm; exact ih (h _ _ hm h1 _ h2 h3)
theorem ready_up {listed : Array Bool} (h : ClL md ops listed) {i j : Nat} (hj : j ∈ Region.ready md ops listed) (hu : Up md ops i j) : listed.getD i false = true := by
  obtain ⟨_, o, ho, hall⟩ := mem_ready.1 hj
  cases hu with
  | one h1 h2 h3 h4 => rw [ho] at h1; cases h1; rw [← h4]; exact hall _ h2 h3
  | via h1 h2 h3 h4 => rw [ho] at h1; cases h1; exact up_listed h h4 (hall _ h2 h3)
theorem not_up {listed : Array Bool} (h : ClL md ops listed) {i j : Nat} (hi : i ∈ Region.ready md ops listed) (hj : j ∈ Region.ready md ops listed) : ¬ Up md ops i j := fun hu => by
  have h1 := ready_up h hj hu
  have h0 := (mem_ready.1 hi).1
  rcases Nat.lt_or_ge i listed.size with h' | h'
  · simp [h'] at h0 h1; rw [h0] at h1; cases h1
  · simp [Array.getElem?_eq_none h'] at h1
theorem cl_set {listed : Array Bool} (h : ClL md ops listed) {j : Nat} (hj : j ∈ Region.ready md ops listed) : ClL md ops (listed.setIfInBounds j true) := by
  intro m om hm ho e he hb
  obtain ⟨_, o, hoj, hall⟩ := mem_ready.1 hj
  by_cases e1 : j = m
  · subst e1
    rw [hoj] at ho; cases ho
    exact getD_set_true (hall e he hb)
  · rw [getD_set_ne false e1] at hm
    exact getD_set_true (h m om hm ho e he hb)

theorem anyT_first (L : LawJ P ops E J) {K : FSt → Prop} {i : Nat} {oi : Oper} (hi : ops[i]? = some oi) :
    ∀ (fuel : Nat) (listed : Array Bool) (s : FSt), ClL md ops listed →
      (∀ j oj, ops[j]? = some oj → j ≠ i → listed.getD j true = false → ¬ Up md ops i j → oi.apart ops oj = true ∧ Comm J ops τ i j) →
      i ∈ Region.ready md ops listed → J i oi s (τ i) →
      AnyT J md ops τ K fuel (listed.setIfInBounds i true) (s.app oi.dst (τ i)) → AnyT J md ops τ K (fuel + 1) listed s := by
  intro fuel
  induction fuel with
  | zero =>
    intro listed s _ _ hr hy H
    refine ⟨fun h => (by rw [h] at hr; cases hr), fun j hj => ?_⟩
    by_cases hji : j = i
    · subst hji
      refine ⟨fun o ho => ?_, ?_⟩
      · rw [hi] at ho; cases ho; exact hy
      · simpa [appT, hi] using H
    · have := ready_mono hj hji
      rw [H.1] at this
      cases this
  | succ fuel ih =>
    intro listed s hcl hfree hr hy H
    refine ⟨fun h => (by rw [h] at hr; cases hr), fun j hj => ?_⟩
    by_cases hji : j = i
    · subst hji
      refine ⟨fun o ho => ?_, ?_⟩
      · rw [hi] at ho; cases ho; exact hy
      · simpa [appT, hi] using H
    · obtain ⟨h1, h2⟩ := H.2 j (ready_mono hj hji)
      obtain ⟨hjun, oj, hoj, hall⟩ := mem_ready.1 hj
      have hnot := not_up hcl hr hj
      obtain ⟨hap, hind⟩ := hfree j oj hoj hji hjun hnot
      obtain ⟨a1, a2, a3⟩ := Oper.apart_spec hap
      have hJj : J j oj s (τ j) := (hind.2 oi oj s hi hoj hap).1 (h1 oj hoj)
      refine ⟨fun o ho => by rw [hoj] at ho; cases ho; exact hJj, ?_⟩
      have hfree' : ∀ k ok, ops[k]? = some ok → k ≠ i → (listed.setIfInBounds j true).getD k true = false →
          ¬ Up md ops i k → oi.apart ops ok = true ∧ Comm J ops τ i k := fun k ok hk hki hun hno => by
        refine hfree k ok hk hki ?_ hno
        by_cases hjk : j = k
        · subst hjk; exact hjun
        · rw [getD_set_ne true hjk] at hun; exact hun
      refine ih (listed.setIfInBounds j true) _ (cl_set hcl hj) hfree' (ready_mono hr (Ne.symm hji)) ?_ ?_
      · simp only [appT, hoj]
        exact (hind.2 oi oj s hi hoj hap).2 hy
      · rw [Array.setIfInBounds_comm _ _ hji]
        simp only [appT, hoj] at h2 ⊢
        rw [FSt.app_comm s oj.dst oi.dst (τ j) (τ i) (fun t ht h => a2 t h ht) (fun k hk h => hind.1 k h hk)]
        exact h2

theorem anyT_lex (L : LawJ P ops E J) {K : FSt → Prop}
    (hind : ∀ i j oj, i < j → ops[j]? = some oj → ¬ Up md ops i j → Comm J ops τ i j) :
    ∀ (l : List Oper) (k : Nat) (listed : Array Bool) (s : FSt), ClL md ops listed → (∀ j, l[j]? = ops[k + j]?) → (∀ j, j < k → listed.getD j true = true) →
    Region.lexFrom md ops l.length k listed = true → SeqT J τ k l s K → AnyT J md ops τ K l.length listed s
  | [], _, _, _, _, _, _, hB, h => ⟨by simpa [Region.lexFrom] using hB, h⟩
  | o :: l, k, listed, s, hcl, hl, hlt, hB, h => by
    have h0 : ops[k]? = some o := by simpa using (hl 0).symm
    simp only [List.length_cons, Region.lexFrom, Bool.and_eq_true] at hB
    obtain ⟨⟨hr, hf⟩, hB'⟩ := hB
    refine anyT_first L h0 l.length listed s hcl (fun j oj hj hne hun hno => ⟨Region.free_spec h0 hf j oj hj hne hun fun e he hb heq => hno (.one hj he hb heq), hind k j oj ?_ hj hno⟩) (by simpa using hr) h.1
      (anyT_lex L hind l (k + 1) _ _ (cl_set hcl (by simpa using hr)) (fun j => by have := hl (j + 1); simpa [Nat.add_assoc, Nat.add_comm 1 j] using this) (fun j hj => ?_) hB' h.2)
    · rcases Nat.lt_or_ge j k with h' | h'
      · rw [hlt j h'] at hun; cases hun
      · omega
    · by_cases hjk : k = j
      · subst hjk
        rcases Nat.lt_or_ge k listed.size with h' | h'
        · simp [h']
        · simp [Array.getElem?_eq_none, h']
      · rw [getD_set_ne true hjk]; exact hlt j (by omega)

/-- A region that does not draw. -/
theorem wp_seq_region (L : LawJ P ops E J) {id : Nat} {Q : Exit → Act → World → Prop} {K : FSt → Prop} (hQ : ∀ s a w η, K s → Rel E s a w η → Q .normal a w)
    {s : FSt} (h : SeqT J τ 0 ops.toList s K) {a : Act} {w : World} {η : Nat → Value} (hr : Rel E s a w η) : (Code.region id ops false).wp P Q a w := by
  refine wp_region ?_
  have := seqT_sound (τ := τ) L hQ ops.toList 0 s a w η (by simp) h hr
  simpa [List.range_eq_range'] using this

/-- A region that draws. -/
theorem wp_any_region (L : LawJ P ops E J) (hm : P.follows .mixedOrders = true) {id : Nat} {Q : Exit → Act → World → Prop} {K : FSt → Prop} (hQ : ∀ s a w η, K s → Rel E s a w η → Q .normal a w)
    (hB : Region.lexB .any ops = true) (hind : ∀ i j oj, i < j → ops[j]? = some oj → ¬ Up .any ops i j → Comm J ops τ i j)
    {s : FSt} (h : SeqT J τ 0 ops.toList s K) {a : Act} {w : World} {η : Nat → Value} (hr : Rel E s a w η) : (Code.region id ops true).wp P Q a w := by
  simp only [Region.lexB, Bool.and_eq_true] at hB
  refine wp_region_any hm (anyT_sound (τ := τ) L hQ _ _ s a _ η ?_ (hr.grow ⟨rfl, rfl, rfl, Nat.le_refl _, fun _ _ _ => rfl⟩))
  have := anyT_lex (md := .any) L hind ops.toList 0 (Array.replicate ops.size false) s (fun m om hm => (by simp [Array.getElem?_replicate] at hm; split at hm <;> simp at hm)) (by simp) (by omega) (by simpa using hB.2) h
  simpa using this
end
#print axioms wp_any_region
end Go.AM
