/- The walk over abstract states that are written out as lists. -/
import Derived.Test.YtdeionjkcmpnpaaDoorAmJudge
set_option linter.unusedSimpArgs false
set_option linter.unusedVariables false
namespace Go.AM
open Go.RowKit

/-! ## what a value that stands in a world is known to be -/
mutual
def V.wf : V → Prop
  | .int k n => k.min ≤ n ∧ n ≤ k.max
  | .sl _ xs => xs.length ≤ 140737488355328 ∧ wfs xs
  | .sn _ xs => xs.length ≤ 140737488355328 ∧ wfs xs
  | .agg cs => wfs cs
  | .tup vs => wfs vs
  | _ => True
def wfs : List V → Prop
  | [] => True
  | x :: r => x.wf ∧ wfs r
end

theorem wfs_iff : ∀ {xs : List V}, wfs xs ↔ ∀ x ∈ xs, x.wf
  | [] => by simp [wfs]
  | x :: r => by simp [wfs, wfs_iff (xs := r)]

mutual
theorem RV_wf {c : Ctx} : ∀ (x : V) (v : Value), RV c x v → x.wf
  | .bot, v, h => by simp [V.wf]
  | .bool b, v, h => by simp [V.wf]
  | .int k n, v, h => by simp only [RV] at h; exact h.2
  | .str s, v, h => by simp [V.wf]
  | .nilS, v, h => by simp [V.wf]
  | .sl e xs, v, h => by
    simp only [RV] at h
    obtain ⟨a, cap, us, hv, _, hl, h1, _⟩ := h
    simp only [V.wf]
    exact ⟨hl, RVl_wf xs us h1⟩
  | .nl, v, h => by simp [V.wf]
  | .sn e xs, v, h => by
    simp only [RV] at h
    obtain ⟨_, a, cap, us, hv, _, hl, h1, _⟩ := h
    simp only [V.wf]
    exact ⟨hl, RVl_wf xs us h1⟩
  | .win id n i o k, v, h => by simp [V.wf]
  | .obj id n, v, h => by simp [V.wf]
  | .ptr id n i o, v, h => by simp [V.wf]
  | .mp id, v, h => by simp [V.wf]
  | .tptr e xs i o, v, h => by simp [V.wf]
  | .nilP, v, h => by simp [V.wf]
  | .func fn f cs, v, h => by simp [V.wf]
  | .nilF, v, h => by simp [V.wf]
  | .agg cs, v, h => by
    simp only [RV] at h
    obtain ⟨cv, hv, h1, h2⟩ := h
    simp only [V.wf]
    exact RVl_wf cs _ h1
  | .tup vs, v, h => by
    simp only [RV] at h
    obtain ⟨cv, hv, h1⟩ := h
    simp only [V.wf]
    exact RVl_wf vs _ h1
  | .opt g x, v, h => by simp [V.wf]
theorem RVl_wf {c : Ctx} : ∀ (xs : List V) (us : List Value), RVl c xs us → wfs xs
  | [], us, h => by simp [wfs]
  | x :: xs, us, h => by
    simp only [RVl] at h
    obtain ⟨u, r, hu, h1, h2⟩ := h
    simp only [wfs]
    exact ⟨RV_wf x u h1, RVl_wf xs r h2⟩
end

/-! ## states as lists -/
structure St where
  sl : List (Nat × V)
  hp : List (Nat × Obj)
  nx : Nat
  ex : List Nat
  N : Nat
  nb : Nat
  gl : List (Nat × Nat × List V)

def St.get (s : St) (t : Nat) : V := (look s.sl t).getD .bot
def St.F (s : St) : FSt := ⟨s.get, look s.hp, fun i => i < s.nx ∨ i ∈ s.ex, s.N, s.nb, look s.gl⟩
def St.app (s : St) (d : Option Tmp) (e : Eff) : St :=
  { s with
    sl := match d with | none => s.sl | some d => if d < s.N then (d, e.val) :: s.sl else s.sl
    hp := e.upd ++ s.hp
    ex := e.ids ++ s.ex }
def St.ev (s : St) : Operand → V
  | .tmp t => s.get t
  | .const v => cst v
  | .global g => match look s.gl g with | some p => .tptr p.1 p.2 0 0 | none => .bot
  | .func f => .func (.func f) [] []
def St.unw (g : Bool) (s : St) : St := { s with sl := s.sl.map fun p => (p.1, p.2.unw g) }

theorem St.ev_F (s : St) : s.F.ev = s.ev := by funext x; cases x <;> rfl

theorem look_append (l : List (Nat × Obj)) (r : List (Nat × Obj)) : look (l ++ r) = updHp l (look r) := by
  funext k
  induction l with
  | nil => rfl
  | cons p l ih =>
    obtain ⟨i, o⟩ := p
    simp only [List.cons_append, look, updHp, ih]

theorem St.app_F (s : St) (d : Option Tmp) (e : Eff) : (s.app d e).F = s.F.app d e := by
  have h1 : (s.app d e).F.sl = (s.F.app d e).sl := by
    funext t
    simp only [FSt.app, FSt.put_sl, St.F, St.app, St.get]
    cases d with
    | none => simp
    | some d =>
      by_cases hd : d < s.N
      · simp only [hd, if_true, look, Option.some.injEq]
        by_cases ht : t = d
        · subst ht; simp [hd]
        · simp [ht, Ne.symm ht]
      · simp only [hd, if_false, Option.some.injEq]
        by_cases ht : d = t
        · subst ht; simp [hd]
        · simp [ht]
  have h2 : (s.app d e).F.hp = (s.F.app d e).hp := by
    simp only [FSt.app, St.F, St.app]
    exact look_append _ _
  have h3 : (s.app d e).F.kn = (s.F.app d e).kn := by
    funext k
    simp only [FSt.app, St.F, St.app]
    exact propext (by simp only [List.mem_append]; constructor <;> (intro h; rcases h with h | h | h <;> simp [h]))
  have h4 : (s.app d e).F.N = (s.F.app d e).N := by simp only [FSt.app, FSt.put_N]; rfl
  have h5 : (s.app d e).F.nb = (s.F.app d e).nb := by simp only [FSt.app, FSt.put_nb]; rfl
  have h6 : (s.app d e).F.gl = (s.F.app d e).gl := by simp only [FSt.app, FSt.put_gl]; rfl
  generalize (s.app d e).F = x at *
  generalize s.F.app d e = y at *
  cases x; cases y
  simp_all

theorem look_map (g : Bool) (l : List (Nat × V)) (t : Nat) : look (l.map fun p => (p.1, p.2.unw g)) t = (look l t).map (V.unw g) := by
  induction l with
  | nil => rfl
  | cons p l ih =>
    obtain ⟨k, x⟩ := p
    simp only [List.map_cons, look, ih]
    split <;> simp

theorem St.unw_F (s : St) (g : Bool) : (s.unw g).F = s.F.unw g := by
  have : (s.unw g).get = fun t => (s.get t).unw g := by
    funext t
    simp only [St.get, St.unw, look_map]
    cases look s.sl t <;> rfl
  simp only [St.F, FSt.unw, this]
  rfl

/-- An operation's step; K is given its effect. -/
def callK (P : Program) (fid : Nat) (o : Oper) (s : St) (K : Eff → Prop) : Prop := ∃ e, (CallJ P o s.ev (look s.hp) (look s.gl) s.nb e ∨ CallR P o s.ev (look s.hp) (fun i => i < s.nx ∨ i ∈ s.ex) (look s.gl) s.nb fid e) ∧ (e.val.wf → K e)

/-- A step that is known. -/
def done (r : Option Stp) (fid nx : Nat) (ex : List Nat) (K : Eff → Prop) : Prop :=
  match r with
  | some t => t.side ∧ (fid ∈ t.e.ids → ¬ (fid < nx ∨ fid ∈ ex)) ∧ K t.e
  | none => False
theorem done_some {t : Stp} {fid nx : Nat} {ex : List Nat} {K : Eff → Prop} : done (some t) fid nx ex K = (t.side ∧ (fid ∈ t.e.ids → ¬ (fid < nx ∨ fid ∈ ex)) ∧ K t.e) := rfl

def isCall : Op → Bool
  | .call { callee := .value _, .. } => true
  | _ => false
def ostepA (P : Program) (fid : Nat) (o : Oper) (s : St) (K : Eff → Prop) (b : Bool) : Prop :=
  match b with
  | true => callK P fid o s K
  | false => done (istep P s.ev (look s.hp) fid o) fid s.nx s.ex K
def ostep (P : Program) (fid : Nat) (o : Oper) (s : St) (K : Eff → Prop) : Prop := ostepA P fid o s K (isCall o.op)

def pdone (r : Option Stp) (g : Bool) (K : Eff → Prop) : Prop :=
  match r with
  | some t => (g = true → t.side) ∧ t.e.upd = [] ∧ K ⟨.opt g t.e.val, [], t.e.rd⟩
  | none => g = false ∧ K ⟨.tup [], [], []⟩
theorem pdone_some {t : Stp} {g : Bool} {K : Eff → Prop} : pdone (some t) g K = ((g = true → t.side) ∧ t.e.upd = [] ∧ K ⟨.opt g t.e.val, [], t.e.rd⟩) := rfl
def pstep (P : Program) (fid : Nat) (o : Oper) (s : St) (g : Bool) (K : Eff → Prop) : Prop :=
  pdone (istep P (fun x => (s.ev x).unw g) (look s.hp) fid o) g K

/-- A guard that is not known. -/
def gbr (P : Program) (fid : Nat) (o : Oper) (s : St) (K : Eff → Prop) (g : Bool) : Prop := (g = true → ostep P fid o (s.unw true) K) ∧ (g = false → K ⟨.tup [], [], []⟩)

/-- An operation that lays nothing and calls nothing: it may be run under a guard that is not known. -/
def mayG : Op → Bool
  | .move _ | .assign _ | .pick .. | .load .. | .nilCheck _ | .binOp .. | .unOp .. | .convert .. | .field .. | .fieldAddr .. | .indexAddr .. | .index .. | .slice .. | .extract .. => true
  | .call { callee := .builtin .len, .. } | .call { callee := .builtin .min, .. } | .call { callee := .builtin .max, .. } => true
  | _ => false

def gstepD (P : Program) (fid : Nat) (o : Oper) (s : St) (K : Eff → Prop) (g : Bool) (b : Bool) : Prop :=
  match b with
  | true => pstep P fid o s g K
  | false => gbr P fid o s K g
def gstepC (P : Program) (fid : Nat) (o : Oper) (s : St) (K : Eff → Prop) (want : Bool) (d : Nat) (v : V) : Prop :=
  match v with
  | .bool t => d < s.N ∧ gstepD P fid o s K (t == want) (mayG o.op)
  | .opt g (.bool t) => d < s.N ∧ gstepD P fid o s K (g && (t == want)) (mayG o.op)
  | .tup [] => d < s.N ∧ gstepD P fid o s K false (mayG o.op)
  | .opt _ (.tup []) => d < s.N ∧ gstepD P fid o s K false (mayG o.op)
  | _ => False
def gstepB (P : Program) (fid : Nat) (o : Oper) (s : St) (K : Eff → Prop) (want : Bool) (d : Option Nat) : Prop :=
  match d with
  | none => False
  | some d => gstepC P fid o s K want d (s.get d)
def gstepA (P : Program) (ops : Array Oper) (fid : Nat) (o : Oper) (s : St) (K : Eff → Prop) (g : Option (Nat × Bool)) : Prop :=
  match g with
  | none => ostep P fid o s K
  | some (j, want) => gstepB P fid o s K want ((ops[j]?).bind (·.dst))
def gstep (P : Program) (ops : Array Oper) (i : Nat) (o : Oper) (s : St) (K : Eff → Prop) : Prop := gstepA P ops (s.nx + 16 * i) o s K o.guard

/-- What an operation did: what it read and laid, by number; what it laid; of a load that is not guarded: its type, its pointer, what it yielded. -/
structure LogE where
  l : List Nat × List Nat
  u : List (Nat × Obj)
  p : Option (TypeId × V × V)
def ldE (s : St) (o : Oper) (e : Eff) : Option (TypeId × V × V) := match o.guard, o.op with
  | none, .load T x => some (T, s.ev x, e.val)
  | _, _ => none

def walk (P : Program) (ops : Array Oper) : Nat → List Oper → St → List LogE → (St → List LogE → Prop) → Prop
  | _, [], s, log, K => K s log
  | i, o :: l, s, log, K => gstep P ops i o s fun e => walk P ops (i + 1) l (s.app o.dst e) (⟨(e.rd, e.ids), e.upd, ldE s o e⟩ :: log) K

def exOk : List Nat → Nat → Prop
  | [], _ => True
  | k :: r, n => k < n ∧ exOk r n
/-- Behind a region: all numbers of it are known. -/
def St.next (s : St) (n : Nat) : St := { s with nx := s.nx + 16 * n, ex := [] }

def after (o : Oper) (i : Nat) : Bool := o.after.any fun e => Region.binds .any e && e.on == i

def apartL (a b : List Nat × List Nat) : Bool := a.2.all (fun k => !b.1.contains k && !b.2.contains k) && b.2.all (fun k => !a.1.contains k && !a.2.contains k)

def dirs (o : Oper) : List Nat := (o.after.toList.filter (Region.binds .any)).map (·.on)
/-- Of each operation those behind which it stands. -/
def upsF : List Oper → List (List Nat) → List (List Nat)
  | [], acc => acc
  | o :: l, acc => upsF l (acc ++ [dirs o ++ (dirs o).flatMap fun m => acc.getD m []])
theorem upsF_spec {ops : Array Oper} : ∀ (l : List Oper) (acc : List (List Nat)), (∀ j, l[j]? = ops[acc.length + j]?) → (∀ j x, x ∈ acc.getD j [] → Up .any ops x j) → ∀ j x, x ∈ (upsF l acc).getD j [] → Up .any ops x j
  | [], acc, _, h, j, x, hx => h j x hx
  | o :: l, acc, hl, h, j, x, hx => by
    have h0 : ops[acc.length]? = some o := by simpa using (hl 0).symm
    have hd : ∀ m, m ∈ dirs o → ∃ e ∈ o.after, Region.binds .any e = true ∧ e.on = m := fun m hm => by
      obtain ⟨e, he, rfl⟩ := List.mem_map.1 hm
      obtain ⟨h1, h2⟩ := List.mem_filter.1 he
      exact ⟨e, by simpa using h1, h2, rfl⟩
    refine upsF_spec l _ (fun k => ?_) (fun k y hy => ?_) j x hx
    · have := hl (k + 1)
      simp only [List.getElem?_cons_succ] at this
      rw [this]
      simp only [List.length_append, List.length_cons, List.length_nil]
      congr 1
      omega
    · by_cases hk : k < acc.length
      · rw [List.getD_eq_getElem?_getD, List.getElem?_append_left hk, ← List.getD_eq_getElem?_getD] at hy
        exact h k y hy
      · rw [List.getD_eq_getElem?_getD, List.getElem?_append_right (by omega)] at hy
        by_cases hk2 : k = acc.length
        · subst hk2
          simp only [Nat.sub_self, List.getElem?_cons_zero, Option.getD_some, List.mem_append, List.mem_flatMap] at hy
          rcases hy with hy | ⟨m, hm, hy⟩
          · obtain ⟨e, e1, e2, e3⟩ := hd y hy
            exact .one h0 e1 e2 e3
          · obtain ⟨e, e1, e2, e3⟩ := hd m hm
            exact .via h0 e1 e2 (by rw [e3]; exact h m y hy)
        · have : k - acc.length = (k - acc.length - 1) + 1 := by omega
          rw [this] at hy
          simp at hy
def indB (ops : Array Oper) (L : List (Nat × Nat)) (l : List (List Nat × List Nat)) : Bool :=
  l.zipIdx.all fun (x, j) => (l.take j).zipIdx.all fun (y, i) => (x.2.isEmpty && y.2.isEmpty) || (match ops[j]? with | some oj => after oj i | none => true) || L.contains (i, j) || apartL y x || ((upsF ops.toList []).getD j []).contains i

def drawOk (ops : Array Oper) (L : List (Nat × Nat)) (log : List LogE) : Bool := Region.lexB .any ops && indB ops L (log.map LogE.l).reverse
/-- A load that may also come behind what another operation lays: it would yield the same. -/
def lateIn (P : Program) (T : TypeId) (n i o : Nat) (v : V) : Option Obj → Prop
  | none => True
  | some ob => partV P T (nth ob.xs i) o = some v ∧ n = ob.xs.length ∧ i < ob.xs.length
def lateOne (P : Program) (p : Option (TypeId × V × V)) (u : List (Nat × Obj)) : Prop :=
  match p with
  | some (T, .ptr id n i o, v) => lateIn P T n i o v (look u id)
  | _ => False
def lateAll (P : Program) (l : List LogE) : List (Nat × Nat) → Prop
  | [] => True
  | (i, j) :: r => (∃ x y, l[i]? = some x ∧ l[j]? = some y ∧ x.l.2 = [] ∧ lateOne P x.p y.u) ∧ lateAll P l r
/-- The operations of a region that draws come to the same in whatever order. -/
def DrawG (P : Program) (ops : Array Oper) (log : List LogE) : Prop := drawOk ops [] log = true ∨ ∃ L, drawOk ops L log = true ∧ lateAll P log.reverse L
theorem lateAll_mem {P : Program} {l : List LogE} : ∀ {L : List (Nat × Nat)}, lateAll P l L → ∀ p ∈ L, ∃ x y, l[p.1]? = some x ∧ l[p.2]? = some y ∧ x.l.2 = [] ∧ lateOne P x.p y.u
  | [], _, p, hp => by simp at hp
  | (i, j) :: r, h, p, hp => by
    simp only [lateAll] at h
    rcases List.mem_cons.1 hp with rfl | hp
    · exact h.1
    · exact lateAll_mem h.2 p hp

/-- What follows a piece of code. -/
def thenK (Q : Exit → St → Prop) (K : St → Prop) (e : Exit) (s : St) : Prop :=
  match e with
  | .normal => K s
  | e => Q e s
/-- What follows a block. -/
def blockK (id : Nat) (Q : Exit → St → Prop) (e : Exit) (s : St) : Prop :=
  match e with
  | .exit id' => if id' = id then Q .normal s else Q (.exit id') s
  | e => Q e s

def AW (P : Program) (E : Entry) (c : Code) (s : St) (Q : Exit → St → Prop) : Prop :=
  ∀ a w η, Rel E s.F a w η → c.wp P (fun e a' w' => ∃ s' η', Q e s' ∧ Rel E s'.F a' w' η') a w

def scopeK (Q : Exit → St → Prop) (e : Exit) (s : St) : Prop :=
  match e with
  | .goto _ => False
  | e => Q e s
/-- Is there a goto? -/
def hasGoto : Code → Bool
  | .goto _ => true
  | .seq a b => hasGoto a || hasGoto b
  | .cond _ a b => hasGoto a || hasGoto b
  | .block _ c => hasGoto c
  | .loop c => hasGoto c
  | .scope c => hasGoto c
  | .skip => false
  | .region _ _ _ => false
  | .rangeFunc _ _ _ _ => false
  | .exit _ => false
  | .label _ => false
  | .ret => false
  | .refuse _ => false
def aev (P : Program) (E : Entry) : Code → St → (Exit → St → Prop) → Prop
  | .skip, s, Q => Q .normal s
  | .label _, s, Q => Q .normal s
  | .ret, s, Q => Q .ret s
  | .exit id, s, Q => Q (.exit id) s
  | .region _ ops draw, s, Q => walk P ops 0 ops.toList s [] fun s' log => (draw = true → DrawG P ops log) ∧ exOk s'.ex (s'.nx + 16 * ops.size) ∧ Q .normal (s'.next ops.size)
  | .seq a b, s, Q => aev P E a s (thenK Q fun s' => aev P E b s' Q)
  | .cond c a b, s, Q => match s.ev c with
    | .bool t => (t = true → aev P E a s Q) ∧ (t = false → aev P E b s Q)
    | _ => False
  | .block id c, s, Q => aev P E c s (blockK id Q)
  | .scope c, s, Q => match hasGoto c with
    | true => AW P E (.scope c) s Q
    | false => aev P E c s (scopeK Q)
  | .goto l, s, Q => Q (.goto l) s
  | c, s, Q => AW P E c s Q

section
variable {P : Program} {E : Entry}

theorem stepK_inhab {ops : Array Oper} {o : Oper} {K : Act → World → Prop} {a : Act} {w : World} (h : stepK P ops (fun _ _ _ => False) o K a w) : ∃ a' w', K a' w' := by
  unfold stepK at h
  split at h
  · unfold Oper.wp at h
    generalize (execOp a.eval o).run P w = r at h
    cases r with
    | halt x w' => cases x <;> exact h.elim
    | ok n w' =>
      cases n with
      | value v => exact ⟨_, _, h⟩
      | skip => exact ⟨_, _, h⟩
      | defer d => exact ⟨_, _, h⟩
      | enter f args =>
        obtain ⟨e, w', fr, hR, _⟩ := h []
        cases e with
        | returned v => exact ⟨_, _, hR⟩
        | panicked c => exact hR.elim
        | outgrown => obtain ⟨_, _, h⟩ := hR; exact h.elim
      | row rw args =>
        obtain ⟨v, w', hR, _⟩ := h default []
        exact ⟨_, _, hR⟩
      | _ => exact h.elim
  · exact ⟨_, _, h⟩

theorem call_wf {fid : Nat} {o : Oper} {s : FSt} {a : Act} {w : World} {η : Nat → Value} {e : Eff} (hr : Rel E s a w η) (h : CallE P fid o s e) : e.val.wf := by
  obtain ⟨f, cargs, _, hc⟩ := callE_run hr h
  obtain ⟨e', w', fr, ⟨v, η1, _, hv, _⟩, _⟩ := hc []
  exact RV_wf _ _ hv

theorem cst_unw {g : Bool} (v : Value) : (cst v).unw g = cst v := by
  unfold cst
  split <;> (try split) <;> rfl

theorem ostep_sound {fid : Nat} {o : Oper} {s : St} {K : Eff → Prop} (h : ostep P fid o s K) {a : Act} {w : World} {η : Nat → Value} (hr : Rel E s.F a w η) : ∃ e, J0 P fid o s.F e ∧ K e := by
  unfold ostep ostepA at h
  split at h
  · obtain ⟨e, he, hK⟩ := h
    have he' : CallE P fid o s.F e := by unfold CallE; rw [St.ev_F]; exact he
    exact ⟨e, .inr he', hK (call_wf hr he')⟩
  · unfold done at h
    split at h
    · rename_i t ht
      exact ⟨t.e, .inl ⟨t, by rw [St.ev_F]; exact ht, h.1, rfl, h.2.1⟩, h.2.2⟩
    · exact h.elim

theorem gstepD_sound {ops : Array Oper} {i j d : Nat} {want g : Bool} {o : Oper} {s : St} {K : Eff → Prop} (h : gstepD P (s.nx + 16 * i) o s K g (mayG o.op)) (hg : o.guard = some (j, want)) (hd : (ops[j]?).bind (·.dst) = some d) (hN : d < s.N) (ht : guardV (s.F.sl d) want = some g) {a : Act} {w : World} {η : Nat → Value} (hr : Rel E s.F a w η) : ∃ e, J P ops s.nx i o s.F e ∧ K e := by
  unfold J
  rw [hg]
  simp only
  have skip : g = false → K ⟨.tup [], [], []⟩ → ∃ e, (∃ d' g', (ops[j]?).bind (·.dst) = some d' ∧ d' < s.F.N ∧ guardV (s.F.sl d') want = some g' ∧ ((g' = true ∧ J0 P (s.nx + 16 * i) o (s.F.unw true) e) ∨ (g' = false ∧ e = ⟨.tup [], [], []⟩) ∨
      (∃ e0, (g' = true → J0 P (s.nx + 16 * i) o (s.F.unw g') e0) ∧ e0.upd = [] ∧ e = ⟨.opt g' e0.val, [], e0.rd⟩))) ∧ K e := fun hf hK =>
    ⟨_, ⟨d, g, hd, hN, ht, .inr (.inl ⟨hf, rfl⟩)⟩, hK⟩
  have take : g = true → ostep P (s.nx + 16 * i) o (s.unw true) K → ∃ e, (∃ d' g', (ops[j]?).bind (·.dst) = some d' ∧ d' < s.F.N ∧ guardV (s.F.sl d') want = some g' ∧ ((g' = true ∧ J0 P (s.nx + 16 * i) o (s.F.unw true) e) ∨ (g' = false ∧ e = ⟨.tup [], [], []⟩) ∨
      (∃ e0, (g' = true → J0 P (s.nx + 16 * i) o (s.F.unw g') e0) ∧ e0.upd = [] ∧ e = ⟨.opt g' e0.val, [], e0.rd⟩))) ∧ K e := fun hf hK => by
    obtain ⟨e, he, hKe⟩ := ostep_sound (E := E) hK (by rw [St.unw_F]; exact hr.unw)
    rw [St.unw_F] at he
    exact ⟨e, ⟨d, g, hd, hN, ht, .inl ⟨hf, he⟩⟩, hKe⟩
  unfold gstepD at h
  split at h
  · unfold pstep pdone at h
    split at h
    · rename_i q hq
      obtain ⟨hs, hu, hK⟩ := h
      refine ⟨_, ⟨d, g, hd, hN, ht, .inr (.inr ⟨q.e, fun hc => .inl ⟨q, ?_, hs hc, rfl, by simp [Eff.ids, hu]⟩, hu, rfl⟩)⟩, hK⟩
      have : (s.F.unw g).ev = fun x => (s.ev x).unw g := by
        rw [← St.unw_F, St.ev_F]
        funext x
        cases x with
        | tmp t' =>
          have := congrFun (congrArg FSt.sl (St.unw_F s g)) t'
          exact this
        | const v => exact (cst_unw v).symm
        | global g' =>
          show (match look s.gl g' with | some p => V.tptr p.1 p.2 0 0 | none => V.bot) = V.unw _ (match look s.gl g' with | some p => V.tptr p.1 p.2 0 0 | none => V.bot)
          split <;> rfl
        | func f => rfl
      rw [this]; exact hq
    · exact skip h.1 h.2
  · cases hc : g with
    | true => exact hc ▸ take hc (h.1 hc)
    | false => exact hc ▸ skip hc (h.2 hc)

theorem gstep_sound {ops : Array Oper} {i : Nat} {o : Oper} {s : St} {K : Eff → Prop} (h : gstep P ops i o s K) {a : Act} {w : World} {η : Nat → Value} (hr : Rel E s.F a w η) : ∃ e, J P ops s.nx i o s.F e ∧ K e := by
  unfold gstep gstepA gstepB gstepC at h
  cases hg : o.guard with
  | none =>
    rw [hg] at h
    unfold J
    rw [hg]
    exact ostep_sound h hr
  | some jw =>
    obtain ⟨j, want⟩ := jw
    rw [hg] at h
    simp only at h
    cases hd : (ops[j]?).bind (·.dst) with
    | none => rw [hd] at h; exact h.elim
    | some d =>
      rw [hd] at h
      simp only at h
      split at h
      · rename_i t ht
        exact gstepD_sound h.2 hg hd h.1 (by show guardV (s.get d) want = _; rw [ht]; rfl) hr
      · rename_i g t ht
        exact gstepD_sound h.2 hg hd h.1 (by show guardV (s.get d) want = _; rw [ht]; rfl) hr
      · rename_i ht
        exact gstepD_sound h.2 hg hd h.1 (by show guardV (s.get d) want = _; rw [ht]; rfl) hr
      · rename_i g ht
        exact gstepD_sound h.2 hg hd h.1 (by show guardV (s.get d) want = _; rw [ht]; rfl) hr
      · exact h.elim
end
end Go.AM
