/- What an operation does to an abstract state. -/
import Derived.Test.YtdeionjkcmpnpaaDoorAmOrd
set_option linter.unusedSimpArgs false
set_option linter.unusedVariables false
namespace Go.AM
open Go.RowKit

/-- An aggregate's cells. -/
def V.cl : V → Option (List V)
  | .agg cs => some cs
  | _ => none
/-- A value of one cell, known to be one. -/
def V.sc : V → Bool
  | .bot | .agg _ | .tup _ | .opt _ _ => false
  | _ => true

mutual
def cst : Value → V
  | .bool b => .bool b
  | .int k n => if k.min ≤ n ∧ n ≤ k.max then .int k n else .bot
  | .string s => if s.size ≤ 140737488355328 then .str s else .bot
  | .pointer none => .nilP
  | .slice none 0 0 => .nilS
  | .nilFunc => .nilF
  | .agg ⟨cs⟩ => if cs.all (·.oneCell') = true then .agg (csts cs) else .bot
  | _ => .bot
def csts : List Value → List V
  | [] => []
  | x :: r => cst1 x :: csts r
def cst1 : Value → V
  | .bool b => .bool b
  | .int k n => if k.min ≤ n ∧ n ≤ k.max then .int k n else .bot
  | .string s => if s.size ≤ 140737488355328 then .str s else .bot
  | .pointer none => .nilP
  | .slice none 0 0 => .nilS
  | .nilFunc => .nilF
  | _ => .bot
end

def isRowT (P : Program) (T : TypeId) : Option Bool := (P.underlying T).map fun d => match d with | .struct _ | .array _ _ => true | _ => false
def zeroV (P : Program) (T : TypeId) : Option V :=
  match (P.info? T).bind (·.zero) with
  | some z => some (cst z)
  | none => none
/-- A field's place and type (of a type of cells). -/
def fldOf (P : Program) (T : TypeId) (f : Nat) : Option (Nat × TypeId) :=
  match P.underlying T with
  | some (.struct fs) => (fs[f]?).map fun x => (x.offset, x.type)
  | _ => none
def elemOfT (P : Program) (T : TypeId) : Option TypeId :=
  match P.underlying T with
  | some (.slice e) => some e
  | _ => none

def ptrT (P : Program) (T : TypeId) : Bool := match P.underlying T with | some (.pointer _) => true | _ => false
def arrOfT (P : Program) (T : TypeId) : Option (Nat × TypeId) :=
  match P.underlying T with
  | some (.array n e) => some (n, e)
  | _ => none

/-- The variable of type T at cell o of an element. -/
def partV (P : Program) (T : TypeId) (x : V) (o : Nat) : Option V :=
  match isRowT P T, x.cl with
  | some true, some cs => if o = 0 ∧ cs.length = P.cellsOf T then some x else if o + P.cellsOf T ≤ cs.length then some (.agg ((cs.drop o).take (P.cellsOf T))) else none
  | some false, some cs => cs[o]?
  | some false, none => if o = 0 then (match x with | .opt _ _ | .tup _ => none | _ => some x) else none
  | _, _ => none

def setPart (x : V) (o : Nat) (v : V) : Option V :=
  match x.cl, v.cl with
  | some cs, some vs => if o = 0 ∧ cs.length = vs.length then some v else if o + vs.length ≤ cs.length then some (.agg (cs.take o ++ vs ++ cs.drop (o + vs.length))) else none
  | some cs, none => if v.sc = true ∧ o < cs.length then some (.agg (cs.set o v)) else none
  | none, none => if v.sc = true ∧ x.sc = true ∧ o = 0 then some v else none
  | none, some _ => none

def sizeV (v : V) : Nat := match v.cl with | some cs => cs.length | none => 1

/-- A step's effect, with what it asks. -/
structure Stp where
  e : Eff
  side : Prop

def just (v : V) : Option Stp := some ⟨⟨v, [], []⟩, True⟩
def justIf (v : V) (p : Prop) : Option Stp := some ⟨⟨v, [], []⟩, p⟩

def byteAt (st : ByteArray) (i : Nat) : Nat := (st.data.getD i 0).toNat
def nth : List V → Nat → V
  | [], _ => .bot
  | x :: _, 0 => x
  | _ :: r, i + 1 => nth r i
theorem nth_eq : ∀ (xs : List V) (i : Nat), nth xs i = xs.getD i .bot
  | [], i => rfl
  | x :: r, 0 => rfl
  | x :: r, i + 1 => by simp only [nth]; rw [nth_eq r i]; rfl

def ldS (P : Program) (hp : Heap) (T : TypeId) : V → Option Stp
  | .ptr id n i o => match hp id with
    | some ob => (partV P T (nth ob.xs i) o).map fun v => ⟨⟨v, [], [id]⟩, n = ob.xs.length ∧ i < ob.xs.length⟩
    | none => none
  | .tptr e xs i o => (partV P T (nth xs i) o).map fun v => ⟨⟨v, [], []⟩, i < xs.length ∧ 0 < e⟩
  | _ => none

def stS (P : Program) (hp : Heap) (T : TypeId) (p v : V) : Option Stp :=
  match p with
  | .ptr id n i o => match hp id with
    | some ob => (setPart (nth ob.xs i) o v).map fun x => ⟨⟨.tup [], [(id, { ob with xs := ob.xs.set i x })], [id]⟩, n = ob.xs.length ∧ i < ob.xs.length ∧ sizeV v = P.cellsOf T ∧ ob.k ≠ .ro⟩
    | none => none
  | _ => none

def cmpV (op : BinOp) (a b : Int) : Option V :=
  match op with
  | .eql => some (.bool (a == b))
  | .neq => some (.bool (a != b))
  | .lss => some (.bool (a < b))
  | .leq => some (.bool (a ≤ b))
  | .gtr => some (.bool (a > b))
  | .geq => some (.bool (a ≥ b))
  | _ => none

def bitsV (op : BinOp) (k : IntKind) (x y : Int) : Option V :=
  match op with
  | .and => some (.int k (k.wrap (BitVec.ofInt k.bits x &&& BitVec.ofInt k.bits y).toNat))
  | .or => some (.int k (k.wrap (BitVec.ofInt k.bits x ||| BitVec.ofInt k.bits y).toNat))
  | .xor => some (.int k (k.wrap (BitVec.ofInt k.bits x ^^^ BitVec.ofInt k.bits y).toNat))
  | .andNot => some (.int k (k.wrap (BitVec.ofInt k.bits x &&& ~~~ BitVec.ofInt k.bits y).toNat))
  | _ => none

/-- Are these two equal, cell by cell? (0: truths, 1: numbers, 2: texts) -/
def eqCells : List Nat → List V → List V → Option Bool
  | [], [], [] => some true
  | 1 :: ts, .int k a :: r, .int k' b :: r' => if k = k' then (eqCells ts r r').map fun t => (a == b) && t else none
  | 0 :: ts, .bool a :: r, .bool b :: r' => (eqCells ts r r').map fun t => (a == b) && t
  | 2 :: ts, .str a :: r, .str b :: r' => (eqCells ts r r').map fun t => (a.toList == b.toList) && t
  | _, _, _ => none

/-- A struct all of whose fields are cells, of numbers, truths or texts; none of them blank: what they are. -/
def flatFs (P : Program) : Nat → List Field → Option (List Nat)
  | _, [] => some []
  | k, f :: fs => if f.name ≠ "_" ∧ f.offset = k then
      (match P.underlying f.type, flatFs P (k + 1) fs with
        | some .bool, some l => some (0 :: l)
        | some (.int _), some l => some (1 :: l)
        | some .string, some l => some (2 :: l)
        | _, _ => none) else none

def flatTys (P : Program) (T : TypeId) : Option (List Nat) :=
  match P.underlying T with
    | some (.struct fs) => if P.stoodInHeld T = false ∧ P.eqGuardType P.depth T = false then flatFs P 0 fs.toList else none
    | _ => none

def strV (op : BinOp) (a b : ByteArray) : Option Stp :=
  match op with
  | .add => justIf (.str (a ++ b)) (a.size + b.size ≤ 140737488355328)
  | .eql => just (.bool (a.toList == b.toList))
  | .neq => just (.bool (!(a.toList == b.toList)))
  | .lss => just (.bool (Op.bytesLess a.toList b.toList))
  | .leq => just (.bool (Op.bytesLess a.toList b.toList || a.toList == b.toList))
  | .gtr => just (.bool (!(Op.bytesLess a.toList b.toList || a.toList == b.toList)))
  | .geq => just (.bool (!(Op.bytesLess a.toList b.toList)))
  | _ => none

/-- Held against nil. -/
def nilB (op : BinOp) (r t : Bool) : Option Stp :=
  match r, op with
  | true, .eql => just (.bool t)
  | true, .neq => just (.bool (!t))
  | _, _ => none

def binS (P : Program) (op : BinOp) (T : TypeId) : V → V → Option Stp
  | .int k a, .int k' b =>
    match op with
    | .shl => justIf (.int k (k.wrap (a * 2 ^ (min b.toNat k.bits)))) (0 ≤ b)
    | .shr => justIf (.int k (a.fdiv (2 ^ (min b.toNat k.bits)))) (0 ≤ b)
    | .add => justIf (.int k (k.wrap (a + b))) (k = k')
    | .sub => justIf (.int k (k.wrap (a - b))) (k = k')
    | .mul => justIf (.int k (k.wrap (a * b))) (k = k')
    | .quo => justIf (.int k (k.wrap (a.tdiv b))) (k = k' ∧ b ≠ 0)
    | .rem => justIf (.int k (a.tmod b)) (k = k' ∧ b ≠ 0)
    | .and | .or | .xor | .andNot => (bitsV op k a b).map fun v => ⟨⟨v, [], []⟩, k = k'⟩
    | _ => (cmpV op a b).map fun v => ⟨⟨v, [], []⟩, k = k'⟩
  | .str a, .str b => strV op a b
  | .bool a, .bool b => match op, P.underlying T with
    | .eql, some .bool => just (.bool (a == b))
    | .neq, some .bool => just (.bool (!(a == b)))
    | _, _ => none
  | .nilS, .nilS => nilB op (elemOfT P T).isSome true
  | .nl, .nilS => nilB op (elemOfT P T).isSome true
  | .sn _ _, .nilS => nilB op (elemOfT P T).isSome false
  | .nilP, .nilP => nilB op (ptrT P T) true
  | .ptr _ _ _ _, .nilP => nilB op (ptrT P T) false
  | .agg xs, .agg ys => match op, (flatTys P T).bind fun l => eqCells l xs ys with
    | .eql, some b => just (.bool b)
    | .neq, some b => just (.bool (!b))
    | _, _ => none
  | _, _ => none

def unS (op : UnOp) : V → Option Stp
  | .int k a => match op with
    | .neg => just (.int k (k.wrap (0 - a)))
    | .xor => (bitsV .xor k (if k.signed then -1 else k.max) a).map fun v => ⟨⟨v, [], []⟩, True⟩
    | _ => none
  | .bool b => match op with
    | .not => just (.bool (!b))
    | _ => none
  | _ => none

def lenV (hp : Heap) : V → Option Stp
  | .nilS => just (.int .i64 0)
  | .sl _ xs => just (.int .i64 xs.length)
  | .str s => justIf (.int .i64 s.size) (s.size ≤ 140737488355328)
  | .obj id n => match hp id with
    | some ob => some ⟨⟨.int .i64 n, [], [id]⟩, n = ob.xs.length⟩
    | none => none
  | .mp id => match hp id with
    | some ob => some ⟨⟨.int .i64 ob.xs.length, [], [id]⟩, True⟩
    | none => none
  | _ => none

def idxS (P : Program) (hp : Heap) (T : TypeId) (x i : V) : Option Stp :=
  match i with
  | .int _ j => match elemOfT P T with
    | some E => match x with
      | .sl e xs => justIf (.tptr e xs j.toNat 0) (e = P.cellsOf E ∧ 0 ≤ j ∧ j < xs.length ∧ 0 < e)
      | .obj id n => match hp id with
        | some ob => some ⟨⟨.ptr id n j.toNat 0, [], [id]⟩, n = ob.xs.length ∧ ob.k ≠ .box ∧ ob.e = P.cellsOf E ∧ 0 ≤ j ∧ j < n⟩
        | none => none
      | _ => none
    | none => match arrOfT P T with
      | some (n, E) => match x with
        | .tptr e xs i' o => justIf (.tptr e xs i' (o + j.toNat * P.cellsOf E)) (0 < P.cellsOf E ∧ 0 ≤ j ∧ j < n)
        | .ptr id m i' o => match hp id with
          | some ob => some ⟨⟨.ptr id m i' (o + j.toNat * P.cellsOf E), [], [id]⟩, m = ob.xs.length ∧ 0 < P.cellsOf E ∧ 0 ≤ j ∧ j < n⟩
          | none => none
        | _ => none
      | none => none
  | _ => none

/-! maps: their entries, in the order in which they came -/
/-- Are two keys the same? (numbers; pairs of numbers) -/
def keyB : V → V → Option Bool
  | .int k a, .int k' b => if k = k' then some (a == b) else none
  | .agg [.int k a, .int j b], .agg [.int k' a', .int j' b'] => if k = k' ∧ j = j' then some (a == a' && b == b') else none
  | _, _ => none
def mfind (key : V) : List V → Option (Option V)
  | [] => some none
  | .tup [k, v] :: r => match keyB key k with
    | some true => some (some v)
    | some false => mfind key r
    | none => none
  | _ => none
def mlook (z key : V) (xs : List V) : Option V := (mfind key xs).map fun v => v.getD z
def mput (key v : V) : List V → Option (List V)
  | [] => some [.tup [key, v]]
  | .tup [k, x] :: r => match keyB key k with
    | some true => some (.tup [key, v] :: r)
    | some false => (mput key v r).map fun l => .tup [k, x] :: l
    | none => none
  | _ => none
/-- A map type's keys and values, where the keys are numbers or pairs of numbers. -/
def mapOf (P : Program) (T : TypeId) : Option (Bool × TypeId × TypeId) :=
  match P.underlying T with
  | some (.map K E) => match P.underlying K with
    | some (.int _) => some (false, K, E)
    | some (.array 2 e) => match P.underlying e with
      | some (.int _) => if P.cellsOf e = 1 then some (true, K, E) else none
      | _ => none
    | _ => none
  | _ => none
/-- Is a key of its type's form? -/
def keyF : Bool → V → Bool
  | false, .int _ _ => true
  | true, .agg [.int _ _, .int _ _] => true
  | _, _ => false
def lookS (P : Program) (hp : Heap) (T : TypeId) (x i : V) : Option Stp :=
  match x with
  | .mp id => match hp id with
    | some ob => match mapOf P T with
      | some (b, _, E) => (zeroV P E).bind fun z => (mlook z i ob.xs).map fun v => ⟨⟨v, [], [id]⟩, keyF b i = true⟩
      | none => none
    | none => none
  | _ => none
def mupdS (P : Program) (hp : Heap) (T : TypeId) (x i v : V) : Option Stp :=
  match x with
  | .mp id => match hp id with
    | some ob => match mapOf P T with
      | some (b, _, _) => match v with
        | .opt _ _ => none
        | v => (mput i v ob.xs).map fun ys => ⟨⟨.tup [], [(id, { ob with xs := ys })], [id]⟩, keyF b i = true ∧ ob.xs.length + 1 ≤ 140737488355328⟩
      | none => none
    | none => none
  | _ => none

/-- A bound of a slice expression, or what stands for it. -/
def bnd (d : Int) : Option V → Option Int
  | none => some d
  | some (.int _ j) => some j
  | _ => none

def sliceS (P : Program) (hp : Heap) (T : TypeId) (x : V) (lo hi : Option V) : Option Stp :=
  match x with
  | .str s => match bnd 0 lo, bnd s.size hi with
    | some l, some h => justIf (.str (s.extract l.toNat h.toNat)) (P.underlying T = some .string ∧ 0 ≤ l ∧ l ≤ h ∧ h ≤ s.size)
    | _, _ => none
  | .sl e xs => match elemOfT P T, bnd 0 lo, bnd xs.length hi with
    | some E, some l, some h => justIf (.sl e ((xs.take h.toNat).drop l.toNat)) (e = P.cellsOf E ∧ 0 < e ∧ 0 ≤ l ∧ l ≤ h ∧ h ≤ xs.length)
    | _, _, _ => none
  | .nilS => match elemOfT P T, bnd 0 lo, bnd ((0 : Nat) : Int) hi with
    | some E, some l, some h => justIf .nilS (0 < P.cellsOf E ∧ l = 0 ∧ h = 0)
    | _, _, _ => none
  | .ptr id n i o => match hp id with
    | some ob => match arrOfT P T with
      | some (na, E) => match bnd 0 lo, bnd na hi with
        | some l, some h => some ⟨⟨.win id n i (o + l.toNat) (h.toNat - l.toNat), [], [id]⟩, n = ob.xs.length ∧ P.cellsOf E = 1 ∧ 0 ≤ l ∧ l < na ∧ l ≤ h ∧ h ≤ na ∧ na ≤ 140737488355328⟩
        | _, _ => none
      | none => none
    | none => none
  | .obj id n => match hp id with
    | some ob => match elemOfT P T, bnd 0 lo, bnd ob.xs.length hi with
      | some E, some l, some h => some ⟨⟨.sl ob.e ((ob.xs.take h.toNat).drop l.toNat), [], [id]⟩, n = ob.xs.length ∧ ob.k = .ro ∧ ob.e = P.cellsOf E ∧ 0 < ob.e ∧ 0 ≤ l ∧ l ≤ h ∧ h ≤ ob.xs.length⟩
      | _, _, _ => none
    | none => none
  | _ => none

/-- What an appended slice shows: its elements, what is read, what is asked. -/
def srcOf (hp : Heap) (e : Nat) : V → Option (List V × List Nat × Prop)
  | .nilS => some ([], [], True)
  | .nl => some ([], [], True)
  | .sl e' ys => some (ys, [], e' = e)
  | .sn e' ys => some (ys, [], e' = e)
  | .obj id n => match hp id with
    | some ob => some (ob.xs, [id], n = ob.xs.length ∧ e = ob.e)
    | none => none
  | _ => none

/-- The bytes of a row of numbers of eight bits. -/
def bytesV : List V → Option (List UInt8)
  | [] => some []
  | .int .u8 n :: r => (bytesV r).map (UInt8.ofNat n.toNat :: ·)
  | _ => none
def strS (P : Program) (hp : Heap) (E : TypeId) (v : V) : Option Stp :=
  match P.underlying E, srcOf hp 1 v with
  | some (.int .u8), some (xs, rd, p) => (bytesV xs).map fun l => ⟨⟨.str ⟨l.toArray⟩, [], rd⟩, p⟩
  | _, _ => none
def scs : List V → Bool
  | [] => true
  | x :: r => x.sc && scs r
/-- Cells are copied: into a window of a box, into an own row. -/
def copyS (P : Program) (hp : Heap) (T : TypeId) (d x : V) : Option Stp :=
  match elemOfT P T with
  | none => none
  | some E => match d with
    | .win id n i o k => match hp id, srcOf hp 1 x with
      | some ob, some (ys, rd, p) => match nth ob.xs i with
        | .agg cs => some ⟨⟨.int .i64 (min k ys.length : Nat), [(id, { ob with xs := ob.xs.set i (.agg (cs.take o ++ ys.take (min k ys.length) ++ cs.drop (o + min k ys.length))) })], id :: rd⟩,
            p ∧ P.cellsOf E = 1 ∧ n = ob.xs.length ∧ i < ob.xs.length ∧ o + k ≤ cs.length ∧ ob.k ≠ .ro ∧ scs ys = true⟩
        | _ => none
      | _, _ => none
    | .obj id n => match hp id, srcOf hp (P.cellsOf E) x with
      | some ob, some (ys, rd, p) => some ⟨⟨.int .i64 (min n ys.length : Nat), [(id, { ob with xs := ys.take (min n ys.length) ++ ob.xs.drop (min n ys.length) })], id :: rd⟩,
            p ∧ 0 < P.cellsOf E ∧ ob.e = P.cellsOf E ∧ n = ob.xs.length ∧ 0 < n ∧ ob.k = .arr⟩
      | _, _ => none
    | _ => none

def appS (P : Program) (hp : Heap) (fid : Nat) (T : TypeId) (s x : V) : Option Stp :=
  match elemOfT P T with
  | none => none
  | some E => match zeroV P E, srcOf hp (P.cellsOf E) x with
    | some z, some (ys, rd, p) => match s with
      | .nilS => some ⟨⟨.obj fid ys.length, [(fid, ⟨.arr, E, P.cellsOf E, ys⟩)], rd⟩,
          p ∧ 0 < P.cellsOf E ∧ sizeV z = P.cellsOf E ∧ (z.sc = true ∨ z.cl.isSome = true) ∧ ys.length * P.bytesOf E ≤ 140737488355328 ∧ ys.length ≤ 140737488355328⟩
      | .obj id n => match hp id with
        | some ob => some ⟨⟨.obj id (n + ys.length), [(id, { ob with xs := ob.xs ++ ys })], id :: rd⟩,
            p ∧ 0 < P.cellsOf E ∧ sizeV z = P.cellsOf E ∧ (z.sc = true ∨ z.cl.isSome = true) ∧ n = ob.xs.length ∧ ob.k = .arr ∧ ob.T = E ∧ ob.e = P.cellsOf E ∧ (n + ys.length) * P.bytesOf E ≤ 140737488355328 ∧ n + ys.length ≤ 140737488355328⟩
        | none => none
      | _ => none
    | _, _ => none

def pickV (t : Bool) (x y : V) : Option Stp :=
  match x, y with
  | .bool x, .bool y => just (.bool (if t then x else y))
  | .bool x, .opt g (.bool y) => justIf (.bool (if t then x else y)) (t = false → g = true)
  | .opt g (.bool x), .bool y => justIf (.bool (if t then x else y)) (t = true → g = true)
  | .bool x, .tup [] => justIf (.bool x) (t = true)
  | .tup [], .bool y => justIf (.bool y) (t = false)
  | _, _ => none

def minV (big : Bool) : List V → Option V
  | [] => none
  | [.int k a] => some (.int k a)
  | .int k a :: .int k' b :: r => if k = k' then minV big (.int k (if big then (if b > a then b else a) else (if b < a then b else a)) :: r) else none
  | _ => none
termination_by l => l.length

def cellsV (v : V) : List V := match v.cl with | some cs => cs | none => [v]

/-- Parts laid into cells. -/
def fillV (places : Nat → Option (Nat × Nat)) (cells : List V) : List (Nat × V) → Option (List V)
  | [] => some cells
  | (i, v) :: rest => match places i with
    | none => none
    | some (off, size) =>
      if (v.cl.isSome = true ∨ v.sc = true) ∧ sizeV v = size ∧ off + size ≤ cells.length then fillV places (cells.take off ++ cellsV v ++ cells.drop (off + size)) rest else none

/-- Where a struct's or an array's parts lie, and how wide they are. -/
def plF (P : Program) (T : TypeId) : Option (Nat → Option (Nat × Nat)) :=
  match P.underlying T with
  | some (.array _ e) => (P.info? e).map fun ie => fun i => some (i * ie.size, ie.size)
  | some (.struct fs) => (fs.toList.mapM fun f => (P.info? f.type).map fun i => (f.offset, i.size)).map fun pl => fun i => pl.toArray[i]?
  | _ => none

def buildS (P : Program) (T : TypeId) (parts : List (Nat × V)) : Option Stp :=
  match plF P T, zeroV P T with
  | some pl, some (.agg z) => (fillV pl z parts).map fun cs => ⟨⟨.agg cs, [], []⟩, True⟩
  | _, _ => none

/-- A slice that is written out: its elements. -/
def elemsV (e : Nat) (xs : List V) : List (Nat × V) → Option (List V)
  | [] => some xs
  | (i, v) :: rest => if (v.cl.isSome = true ∨ v.sc = true) ∧ sizeV v = e ∧ i < xs.length then elemsV e (xs.set i v) rest else none

def bslS (P : Program) (fid : Nat) (T : TypeId) (len : Nat) (parts : List (Nat × V)) : Option Stp :=
  match elemOfT P T with
  | none => none
  | some E => match zeroV P E with
    | none => none
    | some z => (elemsV (P.cellsOf E) (List.replicate len z) parts).map fun xs =>
        ⟨⟨.obj fid len, [(fid, ⟨.arr, E, P.cellsOf E, xs⟩)], []⟩, 0 < P.cellsOf E ∧ sizeV z = P.cellsOf E ∧ (z.sc = true ∨ z.cl.isSome = true) ∧ len * P.cellsOf E ≤ 16777216⟩

def makeS (P : Program) (fid : Nat) (T : TypeId) (l c : V) : Option Stp :=
  match elemOfT P T with
  | none => none
  | some E => match zeroV P E, l, c with
    | some z, .int _ n, .int _ m => some ⟨⟨.obj fid n.toNat, [(fid, ⟨.arr, E, P.cellsOf E, List.replicate n.toNat z⟩)], []⟩,
        0 < P.cellsOf E ∧ sizeV z = P.cellsOf E ∧ (z.sc = true ∨ z.cl.isSome = true) ∧ 0 ≤ n ∧ n ≤ m ∧ m ≤ 140737488355328 ∧ P.bytesOf E * m ≤ 140737488355328⟩
    | _, _, _ => none

end Go.AM
