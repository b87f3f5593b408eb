/- The layer wed: when cycles begin; the plain law. -/
import Derived.Test.YtdeionjkcmpnpaaDoorWed2
set_option linter.unusedSimpArgs false
set_option linter.unusedVariables false
namespace Go.Proofs.YtdeionjkcmpnpaaDoor
open Go.AM Go.RowKit
set_option maxRecDepth 100000

/-! the map of the subs whose beginning is known -/
def kmV (kn : List Bool) : List V := (List.range kn.length).map fun (i : Nat) => .tup [.int .i64 (i : Int), .bool (kn.getD i false)]
theorem mfind_range (f : Nat → V) (a : Nat) : ∀ (n s : Nat), mfind (.int .i64 (a : Int)) ((List.range' s n).map fun (i : Nat) => .tup [.int .i64 (i : Int), f i]) = some (if s ≤ a ∧ a < s + n then some (f a) else none)
  | 0, s => by simp [mfind]
  | n + 1, s => by
    rw [List.range'_succ, List.map_cons]
    by_cases h : a = s
    · subst h
      simp [mfind, keyB]
    · have h2 : ((s : Int) == (a : Int)) = false := by simp; omega
      have h2' : ((a : Int) == (s : Int)) = false := by simp; omega
      simp only [mfind, keyB, if_true, h2, h2', mfind_range f a n (s + 1)]
      congr 1
      by_cases h3 : s + 1 ≤ a ∧ a < s + 1 + n
      · rw [if_pos h3, if_pos (by omega)]
      · rw [if_neg h3, if_neg (by omega)]
theorem mfind_km {kn : List Bool} {a : Nat} (h : a < kn.length) : mfind (.int .i64 (a : Int)) (kmV kn) = some (some (.bool (kn.getD a false))) := by
  unfold kmV
  rw [List.range_eq_range', mfind_range (fun i => .bool (kn.getD i false)) a kn.length 0, if_pos (by omega)]
theorem mput_range (f g : Nat → V) (a : Nat) (v : V) : ∀ (n s : Nat), s ≤ a → a < s + n → (∀ i, i ≠ a → g i = f i) → g a = v →
    mput (.int .i64 (a : Int)) v ((List.range' s n).map fun (i : Nat) => .tup [.int .i64 (i : Int), f i]) = some ((List.range' s n).map fun (i : Nat) => .tup [.int .i64 (i : Int), g i])
  | 0, s, h1, h2, hg, hv => by omega
  | n + 1, s, h1, h2, hg, hv => by
    rw [List.range'_succ, List.map_cons, List.map_cons]
    by_cases h : a = s
    · subst h
      have hrest : ((List.range' (a + 1) n).map fun (i : Nat) => V.tup [.int .i64 (i : Int), f i]) = (List.range' (a + 1) n).map fun (i : Nat) => V.tup [.int .i64 (i : Int), g i] := by
        apply List.map_congr_left
        intro i hi
        rw [List.mem_range'_1] at hi
        rw [hg i (by omega)]
      simp [mput, keyB, hv, hrest]
    · have h2' : ((a : Int) == (s : Int)) = false := by simp; omega
      have h2'' : ((s : Int) == (a : Int)) = false := by simp; omega
      simp only [mput, keyB, if_true, h2', h2'', mput_range f g a v n (s + 1) (by omega) (by omega) hg hv, Option.map_some, hg s (by omega)]
theorem put_km {kn : List Bool} {a : Nat} (h : a < kn.length) : mput (.int .i64 (a : Int)) (.bool true) (kmV kn) = some (kmV (kn.set a true)) := by
  unfold kmV
  rw [List.length_set, List.range_eq_range']
  refine mput_range (fun i => .bool (kn.getD i false)) (fun i => .bool ((kn.set a true).getD i false)) a _ kn.length 0 (by omega) (by omega) (fun i hi => ?_) ?_
  · simp only [List.getD_eq_getElem?_getD, List.getElem?_set_ne (Ne.symm hi)]
  · simp [List.getD_eq_getElem?_getD, h]
theorem km_len (kn : List Bool) : (kmV kn).length = kn.length := by simp [kmV]
theorem mput_new (f : Nat → V) (a : Nat) (v : V) : ∀ (n s : Nat), s + n ≤ a → mput (.int .i64 (a : Int)) v ((List.range' s n).map fun (i : Nat) => .tup [.int .i64 (i : Int), f i]) = some (((List.range' s n).map fun (i : Nat) => .tup [.int .i64 (i : Int), f i]) ++ [.tup [.int .i64 (a : Int), v]])
  | 0, s, h => by simp [mput]
  | n + 1, s, h => by
    rw [List.range'_succ, List.map_cons]
    have h2' : ((a : Int) == (s : Int)) = false := by simp; omega
    have h2'' : ((s : Int) == (a : Int)) = false := by simp; omega
    simp only [mput, keyB, if_true, h2', h2'', mput_new f a v n (s + 1) (by omega), Option.map_some, List.cons_append]
theorem new_km (kn : List Bool) (b : Bool) : mput (.int .i64 (kn.length : Int)) (.bool b) (kmV kn) = some (kmV (kn ++ [b])) := by
  unfold kmV
  rw [List.range_eq_range', mput_new (fun i => .bool (kn.getD i false)) kn.length (.bool b) kn.length 0 (by omega)]
  rw [← List.range_eq_range']
  congr 1
  apply List.ext_getElem?
  intro j
  by_cases h : j < kn.length
  · rw [List.getElem?_append_left (by simpa using h)]
    simp [h, show j < kn.length + 1 by omega, List.getElem?_append_left h, List.getD_eq_getElem?_getD]
  · rw [List.getElem?_append_right (by simpa using h)]
    by_cases h2 : j = kn.length
    · subst h2
      simp [List.getD_eq_getElem?_getD]
    · simp [show ¬ j < kn.length + 1 by omega, show j - kn.length ≠ 0 by omega]
/-! beginnings -/
structure BgSt where
  out : List Int
  kn : List Bool
  more : Bool
def wedAt (n : NetN) (i : Nat) : WedN := n.weds.getD i ⟨0, 0, 0, []⟩
/-- One wed of a pass. -/
def bgStep (n : NetN) (l : List (Bool × Int)) (votes : List (Int × Int × Int)) (all : List Int) (s : BgSt) (i : Nat) : BgSt :=
  if tog l i = false ∨ s.kn.getD (aAt n i) false = s.kn.getD (bAt n i) false then s
  else
    let by_ := (wedAt n i).offsets.getD ((votes.getD i (0, 0, 0)).1).toNat 0
    let c := all.getD (aAt n i) 1
    ⟨if s.kn.getD (aAt n i) false then s.out.set (bAt n i) ((s.out.getD (aAt n i) 0 + by_).tmod c) else s.out.set (aAt n i) ((s.out.getD (bAt n i) 0 - by_.tmod c + c).tmod c),
      (s.kn.set (aAt n i) true).set (bAt n i) true, true⟩
def bgPass (n : NetN) (l : List (Bool × Int)) (votes : List (Int × Int × Int)) (all : List Int) (s : BgSt) (k : Nat) : BgSt := (List.range k).foldl (bgStep n l votes all) s
theorem bgPass_succ (n : NetN) (l : List (Bool × Int)) (votes : List (Int × Int × Int)) (all : List Int) (s : BgSt) (k : Nat) : bgPass n l votes all s (k + 1) = bgStep n l votes all (bgPass n l votes all s k) k := by
  unfold bgPass; rw [List.range_succ, List.foldl_append]; rfl
def bgF (n : NetN) (l : List (Bool × Int)) (votes : List (Int × Int × Int)) (all : List Int) : Nat → BgSt → BgSt
  | 0, s => s
  | f + 1, s => if s.more then bgF n l votes all f (bgPass n l votes all ⟨s.out, s.kn, false⟩ n.weds.length) else s

/-- Beginnings that may be. -/
structure BgOk (n : NetN) (s : BgSt) : Prop where
  ol : s.out.length = n.subs.length
  kl : s.kn.length = n.subs.length
  le : ∀ i, 0 ≤ s.out.getD i 0 ∧ s.out.getD i 0 ≤ 1048576
def fcount (s : BgSt) : Nat := s.kn.count false
def bmeas (s : BgSt) : Nat := fcount s + (if s.more then 1 else 0)
theorem count_set_true {l : List Bool} {a : Nat} (h : a < l.length) : (l.set a true).count false + (if l.getD a false = false then 1 else 0) = l.count false := by
  rw [List.count_set h]
  have e : l.getD a false = l[a] := by simp [h]
  rw [e]
  have hp : l[a] = false → 0 < l.count false := fun hf => List.count_pos_iff.2 (by rw [← hf]; exact List.getElem_mem h)
  cases hl : l[a] with
  | true => simp
  | false => have := hp hl; simp; omega
theorem set_bound {l : List Int} {a : Nat} {v : Int} (h : ∀ i, 0 ≤ l.getD i 0 ∧ l.getD i 0 ≤ 1048576) (hv : 0 ≤ v ∧ v ≤ 1048576) (i : Nat) : 0 ≤ (l.set a v).getD i 0 ∧ (l.set a v).getD i 0 ≤ 1048576 := by
  rw [List.getD_eq_getElem?_getD, List.getElem?_set]
  by_cases e : a = i
  · subst e
    by_cases hl : a < l.length
    · simp [hl]; exact hv
    · simp [hl]
  · simp only [e, if_false]
    rw [← List.getD_eq_getElem?_getD]
    exact h i
theorem tmod_bound {x c : Int} (hx : 0 ≤ x) (hc : 1 ≤ c) : 0 ≤ x.tmod c ∧ x.tmod c < c := ⟨Int.tmod_nonneg _ hx, Int.tmod_lt_of_pos _ (by omega)⟩
/-- What a step does: nothing, or it tells one more. -/
theorem bgStep_ok {n : NetN} {l : List (Bool × Int)} {votes : List (Int × Int × Int)} {all : List Int} {s : BgSt} {i : Nat} (hn : NetOk n) (hi : i < n.weds.length)
    (hv : 0 ≤ ((wedAt n i).offsets.getD ((votes.getD i (0, 0, 0)).1).toNat 0)) (hc : ∀ i, 1 ≤ all.getD i 1 ∧ all.getD i 1 ≤ 1048576) (h : BgOk n s) :
    BgOk n (bgStep n l votes all s i) ∧ (bgStep n l votes all s i = s ∨ ((bgStep n l votes all s i).more = true ∧ fcount (bgStep n l votes all s i) < fcount s)) := by
  have hw := hn.2.2.2.2.2 _ (List.getElem_mem hi)
  obtain ⟨w1, w2, w3, _⟩ := hw
  have ha : aAt n i < s.kn.length := by rw [h.kl]; simp [aAt, hi]; omega
  have hb : bAt n i < s.kn.length := by rw [h.kl]; simp [bAt, hi]; omega
  have hab : aAt n i ≠ bAt n i := by simp [aAt, bAt, hi]; omega
  unfold bgStep
  split
  · exact ⟨h, .inl rfl⟩
  · next hne =>
    simp only [not_or] at hne
    obtain ⟨ht, hk⟩ := hne
    have hca := hc (aAt n i)
    generalize all.getD (aAt n i) 1 = c at *
    generalize (wedAt n i).offsets.getD ((votes.getD i (0, 0, 0)).1).toNat 0 = v at *
    have hbb := tmod_bound hv hca.1
    have k1 := tmod_bound (x := s.out.getD (aAt n i) 0 + v) (by have := (h.le (aAt n i)).1; omega) hca.1
    have k2 := tmod_bound (x := s.out.getD (bAt n i) 0 - v.tmod c + c) (by have := (h.le (bAt n i)).1; omega) hca.1
    have c1 := count_set_true ha
    have c2 := count_set_true (l := s.kn.set (aAt n i) true) (a := bAt n i) (by simpa using hb)
    have e2 : (s.kn.set (aAt n i) true).getD (bAt n i) false = s.kn.getD (bAt n i) false := by
      simp only [List.getD_eq_getElem?_getD, List.getElem?_set_ne hab]
    rw [e2] at c2
    have hcount : ((s.kn.set (aAt n i) true).set (bAt n i) true).count false < s.kn.count false := by
      cases h1 : s.kn.getD (aAt n i) false <;> cases h2 : s.kn.getD (bAt n i) false <;> simp only [h1, h2] at hk c1 c2
      · exact absurd trivial hk
      · simp at c1 c2; omega
      · simp at c1 c2; omega
      · exact absurd trivial hk
    refine ⟨⟨?_, ?_, ?_⟩, .inr ⟨rfl, hcount⟩⟩
    · simp only; split <;> simp [h.ol]
    · simp [h.kl]
    · simp only
      split
      · exact set_bound h.le (by omega)
      · exact set_bound h.le (by omega)
theorem bgPass_ok {n : NetN} {l : List (Bool × Int)} {votes : List (Int × Int × Int)} {all : List Int} {s : BgSt} (hn : NetOk n)
    (hv : ∀ i, 0 ≤ ((wedAt n i).offsets.getD ((votes.getD i (0, 0, 0)).1).toNat 0)) (hc : ∀ i, 1 ≤ all.getD i 1 ∧ all.getD i 1 ≤ 1048576) (h : BgOk n s) (hm : s.more = false) :
    ∀ k, k ≤ n.weds.length → BgOk n (bgPass n l votes all s k) ∧ fcount (bgPass n l votes all s k) ≤ fcount s ∧ ((bgPass n l votes all s k).more = true → fcount (bgPass n l votes all s k) < fcount s)
  | 0, _ => ⟨h, Nat.le_refl _, fun e => by rw [show bgPass n l votes all s 0 = s from rfl, hm] at e; cases e⟩
  | k + 1, hk => by
    obtain ⟨i1, i2, i3⟩ := bgPass_ok hn hv hc h hm k (by omega) (l := l)
    rw [bgPass_succ]
    obtain ⟨j1, j2⟩ := bgStep_ok (l := l) (votes := votes) hn (show k < n.weds.length by omega) (hv k) hc i1
    refine ⟨j1, ?_, fun hmo => ?_⟩
    · rcases j2 with j2 | ⟨_, j2⟩
      · rw [j2]; exact i2
      · omega
    · rcases j2 with j2 | ⟨_, j2⟩
      · rw [j2] at hmo ⊢; exact i3 hmo
      · omega
def kn0 (g : List Int) : List Bool := (List.range g.length).map fun (i : Nat) => decide (g.getD i 0 = (i : Int))
def bg0 (n : NetN) (g : List Int) : BgSt := ⟨List.replicate n.subs.length 0, kn0 g, true⟩
def beginN (n : NetN) (l : List (Bool × Int)) (votes : List (Int × Int × Int)) (all g : List Int) : List Int := (bgF n l votes all (bmeas (bg0 n g)) (bg0 n g)).out
theorem bg0_ok {n : NetN} {g : List Int} (h : g.length = n.subs.length) : BgOk n (bg0 n g) := by
  refine ⟨by simp [bg0], by simp [bg0, kn0, h], fun i => ?_⟩
  simp only [bg0, List.getD_eq_getElem?_getD, List.getElem?_replicate]
  split <;> simp
end Go.Proofs.YtdeionjkcmpnpaaDoor
