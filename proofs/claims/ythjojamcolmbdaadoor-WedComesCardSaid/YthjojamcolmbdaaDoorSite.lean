/- The layer site: what its values are, and the contracts of its small functions. -/
import Derived.Test.YthjojamcolmbdaaDoorBits2
namespace Go.Proofs.YthjojamcolmbdaaDoor
open Go.AM Go.RowKit
set_option maxRecDepth 100000

structure Grp where
  kind : Int
  min : Int
  yellow : Int
structure Pha where
  set : Nat
  min : Int
  max : Int
  gap : Int
  always : Bool
structure Eye where
  phase : Int
  on : Int
  off : Int
  turns : Int
structure Pln where
  cycle : Int
  offset : Int
  splits : List Int
structure Sit where
  id : Int
  groups : List Grp
  apart : List Nat
  between : List (List Int)
  phases : List Pha
  eyes : List Eye
  watch : Int
  feed : Int
  heal : Int
  low : Int
  high : Int
  plans : List Pln

def ints (l : List Int) : List V := l.map fun n => .int .i64 n
theorem ints_len (l : List Int) : (ints l).length = l.length := by simp [ints]
theorem nth_ints {l : List Int} {k : Nat} (h : k < l.length) : nth (ints l) k = .int .i64 l[k] := by rw [ints, nth_map h]
def grpV (g : Grp) : V := .agg [.int .u8 g.kind, .int .i64 g.min, .int .i64 g.yellow]
def phaV (p : Pha) : V := .agg [.int .u32 p.set, .int .i64 p.min, .int .i64 p.max, .int .i64 p.gap, .bool p.always]
def eyeV (e : Eye) : V := .agg [.int .i64 e.phase, .int .i64 e.on, .int .i64 e.off, .int .i64 e.turns]
def plnV (p : Pln) : V := .agg [.int .i64 p.cycle, .int .i64 p.offset, .sl 1 (ints p.splits)]
def sets (l : List Nat) : List V := l.map fun (n : Nat) => .int .u32 (n : Int)
def rows (l : List (List Int)) : List V := l.map fun r => .sl 1 (ints r)
def sitV (s : Sit) : V := .agg [.int .i64 s.id, .sl 3 (s.groups.map grpV), .sl 1 (sets s.apart), .sl 1 (rows s.between), .sl 5 (s.phases.map phaV), .sl 4 (s.eyes.map eyeV), .int .i64 s.watch, .int .i64 s.feed, .int .i64 s.heal, .int .i64 s.low, .int .i64 s.high, .sl 3 (s.plans.map plnV)]

def inN (x a b : Int) : Bool := decide (a ≤ x) && decide (x ≤ b)
theorem in_spec (x a b : Int) : FnD Tryd.prog 69 [.int .i64 x, .int .i64 a, .int .i64 b] (.bool (inN x a b)) := by
  refine fnD_of mixed Tryd.func69 rfl rfl (by simp [Tryd.ntmps69]) fun hwf E => ?_
  simp (disch := omega) [Tryd.ntmps69, go_sem]
  rfl

theorem ints_pure (l : List Int) : pures (ints l) := by induction l with | nil => simp [ints, pures] | cons x l ih => simp only [ints, List.map_cons, pures, V.pure] at ih ⊢; exact ⟨trivial, ih⟩

theorem ticks_spec (l : List Int) : FnD Tryd.prog 126 [.sl 1 (ints l)] (.bool (l.all fun x => inN x 1 1048576)) := by
  refine fnD_of mixed Tryd.func126 rfl rfl (by simp [Tryd.ntmps126]) fun hwf E => ?_
  simp (disch := omega) [go_sem, ints_len] at hwf
  simp (disch := omega) [Tryd.ntmps126, go_sem, ints_len]
  refine awz_loop mixed (fun k : Nat => ⟨[(7, .int .i64 k), (6, .int .i64 l.length), (5, .sl 1 (ints l)), (2, .bool false)], [], 1024, [], 15, 0, []⟩)
    (fun k => k ≤ l.length ∧ ∀ j (h : j < l.length), j < k → inN l[j] 1 1048576 = true) (fun k => l.length - k) 0 (by simp) ?_ ?_
  · refine Le.mk [] [] ⟨rfl, rfl, rfl⟩ ?_ ?_ ?_ <;> simp [go_sem, ints_pure]
  · rintro k ⟨hk, hno⟩
    simp (disch := omega) [go_sem]
    refine br_of (fun h => ?_) (fun h => ?_) <;> simp at h
    · simp (disch := omega) [go_sem, ints_len, nth_ints, h]
      refine callK_bool (in_spec l[k] 1 1048576) [] (by simp [go_sem]) (fun h1 => ?_) (fun h1 => ?_)
      · simp (disch := omega) [go_sem]
        refine round_of (k + 1) ⟨by omega, fun j h3 hj => ?_⟩ (by omega) (Le.mk [] [] ⟨rfl, rfl, rfl⟩ ?_ ?_ ?_)
        · by_cases e : j = k
          · subst e; exact h1
          · exact hno j h3 (by omega)
        all_goals simp (disch := omega) [go_sem, ints_pure]
      · simp (disch := omega) [go_sem]
        exact ⟨l[k], List.getElem_mem h, h1⟩
    · simp (disch := omega) [go_sem]
      intro x hx
      obtain ⟨j, hj, rfl⟩ := List.getElem_of_mem hx
      exact hno j hj (by omega)
end Go.Proofs.YthjojamcolmbdaaDoor
