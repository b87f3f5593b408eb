/- Each operation's step against the model. -/
import Derived.Test.YtdeionjkcmpnpaaDoorAmSound
set_option linter.unusedSimpArgs false
set_option linter.unusedVariables false
namespace Go.AM
open Go.RowKit

def FSt.ev (s : FSt) : Operand → V
  | .tmp t => s.sl t
  | .const v => cst v
  | .global g => match s.gl g with | some p => .tptr p.1 p.2 0 0 | none => .bot
  | .func f => .func (.func f) [] []

def istep (P : Program) (ρ : Operand → V) (hp : Heap) (fid : Nat) (o : Oper) : Option Stp :=
  match o.op with
  | .move x | .assign x => match ρ x with | .opt _ _ => none | v => just v
  | .pick c a b => match ρ c with
    | .bool t => pickV t (ρ a) (ρ b)
    | _ => none
  | .alloc T => (zeroV P T).bind fun z => some ⟨⟨.ptr fid 1 0 0, [(fid, ⟨.box, T, P.cellsOf T, [z]⟩)], []⟩, sizeV z = P.cellsOf T ∧ 0 < P.cellsOf T ∧ (z.sc = true ∨ z.cl.isSome = true)⟩
  | .box T x => some ⟨⟨.ptr fid 1 0 0, [(fid, ⟨.box, T, P.cellsOf T, [ρ x]⟩)], []⟩, sizeV (ρ x) = P.cellsOf T ∧ 0 < P.cellsOf T ∧ ((ρ x).sc = true ∨ (ρ x).cl.isSome = true)⟩
  | .load T x => (ldS P hp T (ρ x)).map fun t => ⟨t.e, t.side ∧ 0 < P.cellsOf T⟩
  | .store T p x => (stS P hp T (ρ p) (ρ x)).map fun t => ⟨t.e, t.side ∧ 0 < P.cellsOf T⟩
  | .nilCheck x => match ρ x with
    | .ptr id n i o => just (.ptr id n i o)
    | .func (.func f) a b => just (.func (.func f) a b)
    | _ => none
  | .binOp op T x y _ => binS P op T (ρ x) (ρ y)
  | .unOp op _ x => unS op (ρ x)
  | .convert src dst x => match P.underlying src, P.underlying dst, ρ x with
    | some (.int _), some (.int k), .int _ n => just (.int k (k.wrap n))
    | some (.slice E), some .string, v => strS P hp E v
    | _, _, _ => none
  | .makeFunc fn first caps => just (.func fn (first.toList.map ρ) (caps.toList.map ρ))
  | .slice T x lo hi none => sliceS P hp T (ρ x) (lo.map ρ) (hi.map ρ)
  | .fieldAddr T x f => match fldOf P T f, ρ x with
    | some (off, ft), .ptr id n i o => justIf (.ptr id n i (o + off)) (0 < P.cellsOf ft)
    | some (off, ft), .tptr e xs i o => justIf (.tptr e xs i (o + off)) (0 < P.cellsOf ft)
    | _, _ => none
  | .field T x f => match fldOf P T f with
    | some (off, ft) => match ρ x with
      | .agg cs => (partV P ft (.agg cs) off).map fun v => ⟨⟨v, [], []⟩, 0 < P.cellsOf ft⟩
      | _ => none
    | none => none
  | .build T ps => buildS P T (ps.toList.map fun p => (p.1, ρ p.2))
  | .buildSlice T len ps => bslS P fid T len (ps.toList.map fun p => (p.1, ρ p.2))
  | .makeSlice T l c => makeS P fid T (ρ l) (ρ c)
  | .makeMap T none => (mapOf P T).map fun _ => ⟨⟨.mp fid, [(fid, ⟨.map, T, 1, []⟩)], []⟩, True⟩
  | .lookup T x i false => lookS P hp T (ρ x) (ρ i)
  | .mapUpdate T x i v => mupdS P hp T (ρ x) (ρ i) (ρ v)
  | .indexAddr T x i => idxS P hp T (ρ x) (ρ i)
  | .extract x i => match ρ x with
    | .tup vs => (vs[i]?).bind just
    | _ => none
  | .index T x i => match ρ x, ρ i with
    | .str st, .int _ n => justIf (.int .u8 (byteAt st n.toNat)) (P.underlying T = some .string ∧ 0 ≤ n ∧ n.toNat < st.size)
    | _, _ => none
  | .call { callee := .builtin b, args, argTypes } => match b, args.toList.map ρ, argTypes.toList with
    | .len, [x], [T] => (lenV hp x).map fun t => ⟨t.e, t.side ∧ (match x with | .str _ => P.underlying T = some .string | .mp _ => (mapOf P T).isSome = true | _ => (elemOfT P T).isSome = true)⟩
    | .append, [s, x], [T, T'] => if T = T' then appS P hp fid T s x else none
    | .copy, [d, x], [T, T'] => if T = T' then copyS P hp T d x else none
    | .max, xs, _ => (minV true xs).bind just
    | .min, xs, _ => (minV false xs).bind just
    | _, _, _ => none
  | _ => none

def Done (P : Program) (E : Entry) (s : FSt) (a : Act) (w : World) (o : Oper) (e : Eff) : Prop :=
  ∃ r w' η', (execOp a.eval o).run P w = .ok r w' ∧ ((∃ v, r = .value v ∧ Rel E (s.app o.dst e) (a.put o.dst v) w' η') ∨ (r = .skip ∧ Rel E (s.app o.dst e) (a.put o.dst undef) w' η'))

theorem FSt.app_nil (s : FSt) (d : Option Tmp) (v : V) (rd : List Nat) : s.app d ⟨v, [], rd⟩ = s.put d v := by
  have h1 := s.put_hp d v
  have h2 := s.put_kn d v
  unfold FSt.app
  simp only [updHp, Eff.ids, List.map_nil, List.not_mem_nil, false_or, ← h1, ← h2]

section
variable {P : Program} {E : Entry} {s : FSt} {a : Act} {w : World} {η : Nat → Value} {o : Oper}

theorem Done.val (hr : Rel E s a w η) {x : V} {v : Value} {rd : List Nat} (hx : RV (s.ctx E w η) x v) (h : (execOp a.eval o).run P w = .ok (.value v) w) : Done P E s a w o ⟨x, [], rd⟩ :=
  ⟨_, w, η, h, .inl ⟨v, rfl, by rw [FSt.app_nil]; exact hr.put o.dst hx⟩⟩

mutual
theorem cst_RV {c : Ctx} (hc : c.data = false) : ∀ (v : Value), RV c (cst v) v
  | .bool b => by simp [cst, RV]
  | .int k n => by
    simp only [cst]
    split
    · simp only [RV, true_and]; assumption
    · simp only [RV]; exact hc
  | .string s => by
    simp only [cst]
    split
    · simp only [RV]
    · simp only [RV]; exact hc
  | .pointer none => by simp [cst, RV]
  | .pointer (some _) => by simpa [cst, RV] using hc
  | .slice none 0 0 => by simp [cst, RV]
  | .slice none 0 (n+1) => by simpa [cst, RV] using hc
  | .slice none (n+1) m => by simpa [cst, RV] using hc
  | .slice (some _) n m => by simpa [cst, RV] using hc
  | .nilFunc => by simp [cst, RV]
  | .agg ⟨cs⟩ => by
    simp only [cst]
    split
    · rename_i h
      simp only [RV]
      exact ⟨⟨cs⟩, rfl, csts_RV hc cs (by simpa using h), by simpa using h⟩
    · simp only [RV]; exact hc
  | .float .. => by simpa [cst, RV] using hc
  | .complex .. => by simpa [cst, RV] using hc
  | .map _ => by simpa [cst, RV] using hc
  | .chan _ => by simpa [cst, RV] using hc
  | .func .. => by simpa [cst, RV] using hc
  | .iface .. => by simpa [cst, RV] using hc
  | .nilIface => by simpa [cst, RV] using hc
  | .tuple .. => by simpa [cst, RV] using hc
theorem csts_RV {c : Ctx} (hc : c.data = false) : ∀ (cs : List Value), (∀ u ∈ cs, u.oneCell' = true) → RVl c (csts cs) cs
  | [], _ => by simp [csts, RVl]
  | x :: r, h => by
    simp only [csts, RVl]
    exact ⟨x, r, rfl, cst1_RV hc x, csts_RV hc r (fun u hu => h u (by simp [hu]))⟩
theorem cst1_RV {c : Ctx} (hc : c.data = false) : ∀ (v : Value), RV c (cst1 v) v
  | .bool b => by simp [cst1, RV]
  | .int k n => by
    simp only [cst1]
    split
    · simp only [RV, true_and]; assumption
    · simp only [RV]; exact hc
  | .string s => by
    simp only [cst1]
    split
    · simp only [RV]
    · simp only [RV]; exact hc
  | .pointer none => by simp [cst1, RV]
  | .pointer (some _) => by simpa [cst1, RV] using hc
  | .slice none 0 0 => by simp [cst1, RV]
  | .slice none 0 (n+1) => by simpa [cst1, RV] using hc
  | .slice none (n+1) m => by simpa [cst1, RV] using hc
  | .slice (some _) n m => by simpa [cst1, RV] using hc
  | .nilFunc => by simp [cst1, RV]
  | .agg _ => by simpa [cst1, RV] using hc
  | .float .. => by simpa [cst1, RV] using hc
  | .complex .. => by simpa [cst1, RV] using hc
  | .map _ => by simpa [cst1, RV] using hc
  | .chan _ => by simpa [cst1, RV] using hc
  | .func .. => by simpa [cst1, RV] using hc
  | .iface .. => by simpa [cst1, RV] using hc
  | .nilIface => by simpa [cst1, RV] using hc
  | .tuple .. => by simpa [cst1, RV] using hc
end
end
end Go.AM
