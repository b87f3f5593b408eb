
/- The layer site, as far as plans and times. -/
import Derived.Test.YtdeionjkcmpnpaaGreatDoorRingA
set_option linter.unusedSimpArgs false
set_option linter.unusedVariables false
namespace Go.Proofs.YtdeionjkcmpnpaaGreatDoor
open Go.AM Go.RowKit
set_option maxRecDepth 100000

/-! The layer site: what its values are, and the contracts of its small functions. -/
structure Grp where
  kind : Int
  min : Int
  yellow : Int
structure Pha where
  set : Nat
  min : Int
  max : Int
  gap : Int
  always : Bool
structure Eye where
  phase : Int
  on : Int
  off : Int
  turns : Int
structure Pln where
  cycle : Int
  offset : Int
  splits : List Int
structure Sit where
  id : Int
  groups : List Grp
  apart : List Nat
  between : List (List Int)
  phases : List Pha
  eyes : List Eye
  watch : Int
  feed : Int
  heal : Int
  low : Int
  high : Int
  plans : List Pln

def ints (l : List Int) : List V := l.map fun n => .int .i64 n
theorem ints_len (l : List Int) : (ints l).length = l.length := by simp [ints]
theorem nth_ints {l : List Int} {k : Nat} (h : k < l.length) : nth (ints l) k = .int .i64 l[k] := by rw [ints, nth_map h]
def grpV (g : Grp) : V := .agg [.int .u8 g.kind, .int .i64 g.min, .int .i64 g.yellow]
def phaV (p : Pha) : V := .agg [.int .u32 p.set, .int .i64 p.min, .int .i64 p.max, .int .i64 p.gap, .bool p.always]
def eyeV (e : Eye) : V := .agg [.int .i64 e.phase, .int .i64 e.on, .int .i64 e.off, .int .i64 e.turns]
def plnV (p : Pln) : V := .agg [.int .i64 p.cycle, .int .i64 p.offset, .sl 1 (ints p.splits)]
def sets (l : List Nat) : List V := l.map fun (n : Nat) => .int .u32 (n : Int)
def rows (l : List (List Int)) : List V := l.map fun r => .sl 1 (ints r)
def sitV (s : Sit) : V := .agg [.int .i64 s.id, .sl 3 (s.groups.map grpV), .sl 1 (sets s.apart), .sl 1 (rows s.between), .sl 5 (s.phases.map phaV), .sl 4 (s.eyes.map eyeV), .int .i64 s.watch, .int .i64 s.feed, .int .i64 s.heal, .int .i64 s.low, .int .i64 s.high, .sl 3 (s.plans.map plnV)]

def inN (x a b : Int) : Bool := decide (a ≤ x) && decide (x ≤ b)
theorem in_spec (x a b : Int) : FnD Tryz.prog 137 [.int .i64 x, .int .i64 a, .int .i64 b] (.bool (inN x a b)) := by
  refine fnD_of mixed Tryz.func137 rfl rfl (by simp [Tryz.ntmps137]) fun hwf E => ?_
  simp (disch := omega) [Tryz.ntmps137, go_sem]
  rfl

theorem ints_pure (l : List Int) : pures (ints l) := by induction l with | nil => simp [ints, pures] | cons x l ih => simp only [ints, List.map_cons, pures, V.pure] at ih ⊢; exact ⟨trivial, ih⟩

theorem ticks_spec (l : List Int) : FnD Tryz.prog 149 [.sl 1 (ints l)] (.bool (l.all fun x => inN x 1 1048576)) := by
  refine fnD_of mixed Tryz.func149 rfl rfl (by simp [Tryz.ntmps149]) fun hwf E => ?_
  simp (disch := omega) [go_sem, ints_len] at hwf
  simp (disch := omega) [Tryz.ntmps149, go_sem, ints_len]
  refine awz_loop mixed (fun k : Nat => ⟨[(7, .int .i64 k), (6, .int .i64 l.length), (5, .sl 1 (ints l)), (2, .bool false)], [], 1024, [], 15, 0, []⟩)
    (fun k => k ≤ l.length ∧ ∀ j (h : j < l.length), j < k → inN l[j] 1 1048576 = true) (fun k => l.length - k) 0 (by simp) ?_ ?_
  · refine Le.mk [] [] ⟨rfl, rfl, rfl⟩ ?_ ?_ ?_ <;> simp [go_sem, ints_pure]
  · rintro k ⟨hk, hno⟩
    simp (disch := omega) [go_sem]
    refine br_of (fun h => ?_) (fun h => ?_) <;> simp at h
    · simp (disch := omega) [go_sem, ints_len, nth_ints, h]
      refine callK_bool (in_spec l[k] 1 1048576) [] (by simp [go_sem]) (fun h1 => ?_) (fun h1 => ?_)
      · simp (disch := omega) [go_sem]
        refine round_of (k + 1) ⟨by omega, fun j h3 hj => ?_⟩ (by omega) (Le.mk [] [] ⟨rfl, rfl, rfl⟩ ?_ ?_ ?_)
        · by_cases e : j = k
          · subst e; exact h1
          · exact hno j h3 (by omega)
        all_goals simp (disch := omega) [go_sem, ints_pure]
      · simp (disch := omega) [go_sem]
        exact ⟨l[k], List.getElem_mem h, h1⟩
    · simp (disch := omega) [go_sem]
      intro x hx
      obtain ⟨j, hj, rfl⟩ := List.getElem_of_mem hx
      exact hno j hj (by omega)

/-! The layer site: eyes. -/
theorem pures_map {α : Type} (f : α → V) (h : ∀ x, (f x).pure) : ∀ (l : List α), pures (l.map f)
  | [] => by simp [pures]
  | x :: l => by simp only [List.map_cons, pures]; exact ⟨h x, pures_map f h l⟩
theorem grps_pure (l : List Grp) : pures (l.map grpV) := pures_map _ (fun g => by simp [grpV, go_sem]) l
theorem phas_pure (l : List Pha) : pures (l.map phaV) := pures_map _ (fun g => by simp [phaV, go_sem]) l
theorem eyes_pure (l : List Eye) : pures (l.map eyeV) := pures_map _ (fun g => by simp [eyeV, go_sem]) l
theorem plns_pure (l : List Pln) : pures (l.map plnV) := pures_map _ (fun g => by simp [plnV, go_sem, ints_pure]) l
theorem sets_pure (l : List Nat) : pures (sets l) := pures_map _ (fun g => by simp [go_sem]) l
theorem rows_pure (l : List (List Int)) : pures (rows l) := pures_map _ (fun g => by simp [go_sem, ints_pure]) l

def eyeOk (n : Nat) (e : Eye) : Bool := inN e.phase 0 ((n : Int) - 1) && (inN e.on 1 1048576 && inN e.off 1 1048576) && inN e.turns 1 64
theorem eyed_spec (s : Sit) : FnD Tryz.prog 141 [sitV s] (.bool (s.eyes.all (eyeOk s.phases.length))) := by
  have hpu := (⟨grps_pure s.groups, phas_pure s.phases, eyes_pure s.eyes, plns_pure s.plans, sets_pure s.apart, rows_pure s.between⟩ : _ ∧ _ ∧ _ ∧ _ ∧ _ ∧ _)
  obtain ⟨hp1, hp2, hp3, hp4, hp5, hp6⟩ := hpu
  unfold sitV
  refine fnD_of mixed Tryz.func141 rfl rfl (by simp [Tryz.ntmps141]) fun hwf E => ?_
  simp (disch := omega) [go_sem] at hwf
  simp (disch := omega) [Tryz.ntmps141, go_sem]
  refine awz_loop mixed (fun k : Nat => ⟨[(8, .int .i64 k), (7, .int .i64 s.eyes.length), (6, .sl 4 (s.eyes.map eyeV)), (1, .ptr 0 1 0 0), (2, .bool false)], [(0, ⟨.box, 87, 12, [sitV s]⟩)], 1024, [], 36, 0, []⟩)
    (fun k => k ≤ s.eyes.length ∧ ∀ j (h : j < s.eyes.length), j < k → eyeOk s.phases.length s.eyes[j] = true) (fun k => s.eyes.length - k) 0 (by simp) ?_ ?_
  · refine Le.mk [(0, some 0)] [0] ⟨rfl, rfl, rfl⟩ ?_ ?_ ?_ <;> simp [go_sem, sitV, hp1, hp2, hp3, hp4, hp5, hp6]
  · rintro k ⟨hk, hno⟩
    simp (disch := omega) [go_sem, sitV]
    refine br_of (fun h => ?_) (fun h => ?_) <;> simp at h
    · have he : nth (s.eyes.map eyeV) k = eyeV s.eyes[k] := nth_map h
      simp (disch := omega) [go_sem, h, he, eyeV, sitV]
      have hn : (inN s.eyes[k].phase 0 ((s.phases.length : Int) - 1) && (inN s.eyes[k].on 1 1048576 && inN s.eyes[k].off 1 1048576) && inN s.eyes[k].turns 1 64) = eyeOk s.phases.length s.eyes[k] := rfl
      refine callK_bool (in_spec s.eyes[k].phase 0 ((s.phases.length : Int) - 1)) [] (by simp [go_sem]) (fun h1 => ?_) (fun h1 => ?_)
      · simp (disch := omega) [go_sem]
        refine callK_bool (ticks_spec [s.eyes[k].on, s.eyes[k].off]) [1312] (by simp [go_sem, ints]) (fun h2 => ?_) (fun h2 => ?_)
        · simp at h2
          simp (disch := omega) [go_sem]
          refine callK_bool (in_spec s.eyes[k].turns 1 64) [] (by simp [go_sem]) (fun h3 => ?_) (fun h3 => ?_)
          · simp (disch := omega) [go_sem]
            refine round_of (k + 1) ⟨by omega, fun j h4 hj => ?_⟩ (by omega) (Le.mk [(0, some 0)] [0] ⟨rfl, rfl, rfl⟩ ?_ ?_ ?_)
            · by_cases e : j = k
              · subst e; rw [← hn]; simp [h1, h2, h3]
              · exact hno j h4 (by omega)
            all_goals simp [go_sem, sitV, hp1, hp2, hp3, hp4, hp5, hp6]
          · simp (disch := omega) [go_sem]
            exact ⟨s.eyes[k], List.getElem_mem h, by rw [← hn]; simp [h3]⟩
        · simp (disch := omega) [go_sem]
          exact ⟨s.eyes[k], List.getElem_mem h, by rw [← hn]; simp at h2; simp; intro _ a b; exact absurd b (by simp [h2 a])⟩
      · simp (disch := omega) [go_sem]
        exact ⟨s.eyes[k], List.getElem_mem h, by rw [← hn]; simp [h1]⟩
    · simp (disch := omega) [go_sem]
      intro x hx
      obtain ⟨j, hj, rfl⟩ := List.getElem_of_mem hx
      exact hno j hj (by omega)

/-! The layer site: shapes. -/
def rowOk (s : Sit) (i : Nat) : Prop := (s.between.getD i []).length = s.groups.length ∧ s.apart.getD i 0 < 2 ^ s.groups.length
instance (s : Sit) (i : Nat) : Decidable (rowOk s i) := by unfold rowOk; infer_instance
def Shaped (s : Sit) : Prop := (1 ≤ s.groups.length ∧ s.groups.length ≤ 16) ∧ s.apart.length = s.groups.length ∧ s.between.length = s.groups.length ∧ (1 ≤ s.phases.length ∧ s.phases.length ≤ 8) ∧ s.eyes.length ≤ 24 ∧ s.plans.length ≤ 8 ∧
  ∀ i, i < s.between.length → rowOk s i
instance (s : Sit) : Decidable (Shaped s) := by unfold Shaped; infer_instance
theorem sets_len (l : List Nat) : (sets l).length = l.length := by simp [sets]
theorem rows_len (l : List (List Int)) : (rows l).length = l.length := by simp [rows]
theorem nth_sets {l : List Nat} {k : Nat} (h : k < l.length) : nth (sets l) k = .int .u32 (l[k] : Int) := by rw [sets, nth_map h]
theorem nth_rows {l : List (List Int)} {k : Nat} (h : k < l.length) : nth (rows l) k = .sl 1 (ints l[k]) := by rw [rows, nth_map h]
theorem inN_iff {x a b : Int} : inN x a b = true ↔ a ≤ x ∧ x ≤ b := by simp [inN]

theorem shr_zero (a n : Nat) : ((a : Int).fdiv (2 ^ n) = 0) ↔ a < 2 ^ n := by
  rw [Int.fdiv_eq_ediv_of_nonneg _ (by exact_mod_cast Nat.zero_le (2 ^ n)), show ((2 : Int) ^ n) = ((2 ^ n : Nat) : Int) by simp, ← Int.natCast_ediv, Int.natCast_eq_zero, Nat.div_eq_zero_iff]
  have := Nat.two_pow_pos n
  omega
theorem shape_spec (s : Sit) : FnD Tryz.prog 138 [sitV s] (.bool (decide (Shaped s))) := by
  have hpu := (⟨grps_pure s.groups, phas_pure s.phases, eyes_pure s.eyes, plns_pure s.plans, sets_pure s.apart, rows_pure s.between⟩ : _ ∧ _ ∧ _ ∧ _ ∧ _ ∧ _)
  obtain ⟨hp1, hp2, hp3, hp4, hp5, hp6⟩ := hpu
  unfold sitV
  refine fnD_of mixed Tryz.func138 rfl rfl (by simp [Tryz.ntmps138]) fun hwf E => ?_
  simp (disch := omega) [go_sem] at hwf
  simp (disch := omega) [Tryz.ntmps138, go_sem, sets_len, rows_len]
  refine callK_bool (in_spec s.groups.length 1 16) [] (by simp [go_sem]) (fun h1 => ?_) (fun h1 => ?_)
  · rw [inN_iff] at h1
    simp (disch := omega) [go_sem, sets_len, rows_len]
    refine gbr_of (fun h2 => ?_) (fun h2 => ?_)
    · simp at h2
      simp (disch := omega) [go_sem, h2]
      refine callK_bool (in_spec s.phases.length 1 8) [] (by simp [go_sem]) (fun h3 => ?_) (fun h3 => ?_)
      · rw [inN_iff] at h3
        simp (disch := omega) [go_sem, sets_len, rows_len, h2]
        refine br_of (fun h4 => ?_) (fun h4 => ?_) <;> simp at h4
        · simp (disch := omega) [go_sem]
          rintro ⟨_, _, _, _, a, b, _⟩; omega
        · simp (disch := omega) [go_sem, sets_len, rows_len]
          have ha : s.apart.length = s.groups.length := by omega
          have hb : s.between.length = s.groups.length := by omega
          refine awz_loop mixed (fun k : Nat => ⟨[(48, .int .i64 k), (47, .int .i64 s.between.length), (46, .sl 1 (rows s.between)), (1, .ptr 0 1 0 0), (3, .int .i64 s.groups.length), (2, .bool false)], [(0, ⟨.box, 87, 12, [sitV s]⟩)], 2048, [], 68, 0, []⟩)
            (fun k => k ≤ s.between.length ∧ ∀ i, i < k → rowOk s i) (fun k => s.between.length - k) 0 ⟨by omega, fun i hi => by omega⟩ ?_ ?_
          · refine Le.mk [(0, some 0)] [0] ⟨rfl, rfl, rfl⟩ ?_ ?_ ?_ <;> simp [go_sem, sitV, hp1, hp2, hp3, hp4, hp5, hp6, hb]
          · rintro k ⟨hk, hno⟩
            simp (disch := omega) [go_sem, sitV, rows_len]
            refine br_of (fun h => ?_) (fun h => ?_) <;> simp at h
            · have hka : k < s.apart.length := by omega
              simp (disch := omega) [go_sem, h, nth_rows, sitV, rows_len, ints_len, sets_len, nth_sets, hka]
              have hz := shr_zero s.apart[k] s.groups.length
              have g1 : s.between.getD k [] = s.between[k] := by simp [h]
              have g2 : s.apart.getD k 0 = s.apart[k] := by simp [hka]
              refine br_of (fun h5 => ?_) (fun h5 => ?_)
              · simp (disch := omega) [go_sem]
                rintro ⟨_, _, _, _, _, _, hall⟩
                have := hall k h
                unfold rowOk at this
                rw [g1, g2] at this
                simp [hz, this.1, this.2] at h5
              · simp only [Bool.or_eq_false_iff, bne_eq_false_iff_eq, hz] at h5
                simp (disch := omega) [go_sem]
                refine round_of (k + 1) ⟨by omega, fun j hj => ?_⟩ (by omega) (Le.mk [(0, some 0)] [0] ⟨rfl, rfl, rfl⟩ ?_ ?_ ?_)
                · by_cases e : j = k
                  · subst e; unfold rowOk; rw [g1, g2]; exact ⟨by have h6 := h5.1; simp at h6; omega, h5.2⟩
                  · exact hno j (by omega)
                all_goals simp [go_sem, sitV, hp1, hp2, hp3, hp4, hp5, hp6]
            · simp (disch := omega) [go_sem]
              exact ⟨by omega, ha, hb, by omega, by omega, by omega, fun i hi => hno i (by omega)⟩
      · have h3' : ¬ (1 ≤ (s.phases.length : Int) ∧ (s.phases.length : Int) ≤ 8) := by rw [← inN_iff]; simp [h3]
        simp (disch := omega) [go_sem]
        rintro ⟨_, _, _, a, _⟩; omega
    · simp at h2
      simp (disch := omega) [go_sem, h2]
      refine ⟨by omega, by omega, ?_⟩
      rintro ⟨_, a, b, _⟩; omega
  · have h1' : ¬ (1 ≤ (s.groups.length : Int) ∧ (s.groups.length : Int) ≤ 16) := by rw [← inN_iff]; simp [h1]
    simp (disch := omega) [go_sem]
    rintro ⟨a, _⟩; omega

/-! The layer site: what lies between phases. -/
def bitsOf (s : Nat) : List Nat := (List.range 32).filter fun j => s.testBit j
theorem bitsOf_zero : bitsOf 0 = [] := by decide
theorem bitsOf_mem {s b : Nat} : b ∈ bitsOf s ↔ b < 32 ∧ s.testBit b = true := by simp [bitsOf]
theorem range_split (k : Nat) (hk : k < 32) : List.range 32 = List.range k ++ [k] ++ (List.range (31 - k)).map (k + 1 + ·) := by
  have : ∀ k : Fin 32, List.range 32 = List.range k.val ++ [k.val] ++ (List.range (31 - k.val)).map (k.val + 1 + ·) := by decide +kernel
  exact this ⟨k, hk⟩
theorem bitsOf_step {s : Nat} (h : s ≠ 0) (hs : s < 4294967296) : bitsOf s = lowN s :: bitsOf (withoutN s (lowN s)) := by
  obtain ⟨hk, h1, h2, -⟩ := low_ex s h hs
  generalize lowN s = k at *
  have hw := withoutN_testBit hs (k : Int)
  unfold bitsOf
  rw [range_split k hk]
  simp only [List.filter_append]
  have a1 : (List.range k).filter (fun j => s.testBit j) = [] := by
    rw [List.filter_eq_nil_iff]; intro j hj; simp [h2 j (by simpa using hj)]
  have a2 : (List.range k).filter (fun j => (withoutN s (k : Int)).testBit j) = [] := by
    rw [List.filter_eq_nil_iff]; intro j hj; simp [hw, h2 j (by simpa using hj)]
  have a3 : ([k] : List Nat).filter (fun j => (withoutN s (k : Int)).testBit j) = [] := by simp [hw]
  have a4 : ((List.range (31 - k)).map (k + 1 + ·)).filter (fun j => (withoutN s (k : Int)).testBit j) = ((List.range (31 - k)).map (k + 1 + ·)).filter (fun j => s.testBit j) := by
    apply List.filter_congr
    intro j hj
    simp only [List.mem_map, List.mem_range] at hj
    obtain ⟨i, _, rfl⟩ := hj
    rw [hw]
    rw [decide_eq_false (show ¬ ((k + 1 + i : Nat) : Int) = (k : Int) by omega)]; simp
  rw [a1, a2, a3, a4]
  simp [h1]

def maxI (m x : Int) : Int := if m < x then x else m
def most (row : List Int) (t : Nat) (n : Int) : Int := (bitsOf t).foldl (fun m b => maxI m (row.getD b 0)) n
theorem most_zero (row : List Int) (n : Int) : most row 0 n = n := by simp [most, bitsOf_zero]
theorem most_step {row : List Int} {t : Nat} {n : Int} (h : t ≠ 0) (ht : t < 4294967296) : most row t n = most row (withoutN t (lowN t)) (maxI n (row.getD (lowN t) 0)) := by
  unfold most; rw [bitsOf_step h ht]; rfl
def clearRow (s : Sit) (A B a : Nat) (n : Int) : Int := if A.testBit a = true then most (s.between.getD a []) (s.apart.getD a 0 &&& B) n else n
def clearK (s : Sit) (A B k : Nat) : Int := (List.range k).foldl (fun m a => clearRow s A B a m) 0
theorem clearK_succ (s : Sit) (A B k : Nat) : clearK s A B (k + 1) = clearRow s A B k (clearK s A B k) := by
  simp [clearK, List.range_succ]
def setAt (s : Sit) (i : Nat) : Nat := ((s.phases[i]?).map Pha.set).getD 0
def clearN (s : Sit) (i j : Nat) : Int := clearK s (setAt s i) (setAt s j) s.groups.length

theorem wf_phas : ∀ {l : List Pha}, wfs (l.map phaV) → ∀ p ∈ l, p.set < 4294967296
  | [], _, p, hp => by simp at hp
  | x :: l, h, p, hp => by
    simp only [List.map_cons, wfs] at h
    rcases List.mem_cons.1 hp with rfl | hp
    · have := h.1
      simp [phaV, go_sem] at this
      omega
    · exact wf_phas h.2 p hp

theorem clear_spec (s : Sit) (i j : Nat) (hS : Shaped s) (hi : i < s.phases.length) (hj : j < s.phases.length) : FnD Tryz.prog 193 [sitV s, .int .i64 i, .int .i64 j] (.int .i64 (clearN s i j)) tabG := by
  have hpu := (⟨grps_pure s.groups, phas_pure s.phases, eyes_pure s.eyes, plns_pure s.plans, sets_pure s.apart, rows_pure s.between⟩ : _ ∧ _ ∧ _ ∧ _ ∧ _ ∧ _)
  obtain ⟨hp1, hp2, hp3, hp4, hp5, hp6⟩ := hpu
  obtain ⟨hn, ha, hb, hph, -, -, hrow⟩ := hS
  unfold sitV
  refine fnD_of mixed Tryz.func193 rfl rfl (by simp [Tryz.ntmps193]) fun hwf E => ?_
  simp (disch := omega) [go_sem] at hwf
  have hws := wf_phas hwf.1.2.2.2.2.1.2
  have hA : setAt s i < 4294967296 := by simp only [setAt, List.getElem?_eq_getElem hi]; exact hws _ (List.getElem_mem hi)
  have hB : setAt s j < 4294967296 := by simp only [setAt, List.getElem?_eq_getElem hj]; exact hws _ (List.getElem_mem hj)
  have hpi : nth (s.phases.map phaV) i = phaV s.phases[i] := nth_map hi
  have hpj : nth (s.phases.map phaV) j = phaV s.phases[j] := nth_map hj
  have hsi : s.phases[i].set = setAt s i := by simp [setAt, hi]
  have hsj : s.phases[j].set = setAt s j := by simp [setAt, hj]
  simp (disch := omega) [Tryz.ntmps193, go_sem]
  unfold clearN
  generalize setAt s i = A at *
  generalize setAt s j = B at *
  refine awz_loop mixed (fun k : Nat => ⟨[(13, .int .i64 k), (12, .int .i64 s.groups.length), (6, .int .i64 (clearK s A B k)), (3, .ptr 0 1 0 0), (1, .int .i64 i), (2, .int .i64 j)], [(0, ⟨.box, 87, 12, [sitV s]⟩)], 1024, [], 56, 0, tabG⟩)
    (fun k => k ≤ s.groups.length) (fun k => s.groups.length - k) 0 (by simp) ?_ ?_
  · refine Le.mk [(0, some 0)] [0] ⟨rfl, rfl, rfl⟩ ?_ ?_ ?_ <;> simp [go_sem, sitV, hp1, hp2, hp3, hp4, hp5, hp6, clearK]
  · intro k hk
    simp (disch := omega) [go_sem, sitV]
    refine br_of (fun h => ?_) (fun h => ?_) <;> simp at h
    · simp (disch := omega) [go_sem, sitV, hpi, phaV, hi, hsi]
      refine callK_bool (has_spec A k hA) [] (by simp [go_sem]) (fun h1 => ?_) (fun h1 => ?_)
      · have hA1 : A.testBit k = true := by simpa [hasN] using h1
        have hka : k < s.apart.length := by omega
        have hkb : k < s.between.length := by omega
        have hro := hrow k hkb
        unfold rowOk at hro
        have g1 : s.between.getD k [] = s.between[k] := by simp [hkb]
        have g2 : s.apart.getD k 0 = s.apart[k] := by simp [hka]
        rw [g1, g2] at hro
        obtain ⟨hr1, hr2⟩ := hro
        have hr3 : s.apart[k] < 65536 := Nat.lt_of_lt_of_le hr2 (show 2 ^ s.groups.length ≤ 2 ^ 16 from Nat.pow_le_pow_right (by omega) hn.2)
        have hgoal : clearK s A B (k + 1) = most s.between[k] (s.apart[k] &&& B) (clearK s A B k) := by
          rw [clearK_succ]; unfold clearRow; rw [if_pos hA1, g1, g2]
        have hlt : s.apart[k] &&& B < 4294967296 := and_lt (by omega)
        have hbits : ∀ b, (s.apart[k] &&& B).testBit b = true → b < s.groups.length := by
          intro b hb
          rw [Nat.testBit_and] at hb
          apply Classical.byContradiction
          intro hnb
          have : s.apart[k].testBit b = false := Nat.testBit_lt_two_pow (Nat.lt_of_lt_of_le hr2 (Nat.pow_le_pow_right (by omega) (by omega)))
          simp [this] at hb
        simp (disch := omega) [go_sem, sitV, hpj, phaV, hj, hsj, nth_sets, hka, sets_len]
        refine ⟨.inl (by kernel_rfl), ?_⟩
        refine awz_loop mixed (fun q : Nat × Int => ⟨[(8, .int .u32 (q.1 : Int)), (6, .int .i64 q.2), (7, .int .i64 k), (13, .int .i64 k), (12, .int .i64 s.groups.length), (3, .ptr 0 1 0 0), (1, .int .i64 i), (2, .int .i64 j)], [(0, ⟨.box, 87, 12, [sitV s]⟩)], 2048, [], 56, 0, tabG⟩)
          (fun q => q.1 < 4294967296 ∧ (∀ b, q.1.testBit b = true → b < s.groups.length) ∧ most s.between[k] q.1 q.2 = clearK s A B (k + 1)) (fun q => (bitsOf q.1).length) (s.apart[k] &&& B, clearK s A B k) ⟨hlt, hbits, hgoal.symm⟩ ?_ ?_
        · refine Le.mk [(0, some 0)] [0] ⟨rfl, rfl, rfl⟩ ?_ ?_ ?_ <;> simp [go_sem, sitV, hp1, hp2, hp3, hp4, hp5, hp6]
        · rintro ⟨t, m⟩ ⟨ht, htb, htm⟩
          simp only at ht htb htm
          simp (disch := omega) [go_sem, sitV]
          refine br_of (fun h3 => ?_) (fun h3 => ?_) <;> simp at h3
          · obtain ⟨hk1, hk2, -, -⟩ := low_ex t h3 ht
            have hls := least_spec t ht
            rw [show leastN t = (lowN t : Int) by simp [leastN, h3]] at hls
            have hwo := without_spec t (lowN t) ht
            have hbl := htb _ hk2
            have hst := most_step (row := s.between[k]) (n := m) h3 ht
            have hlen := congrArg List.length (bitsOf_step h3 ht)
            generalize lowN t = b at *
            have hbr : b < s.between[k].length := by omega
            have g3 : s.between[k].getD b 0 = s.between[k][b] := by simp [hbr]
            simp (disch := omega) [go_sem]
            refine callK_data hls [] (by simp [go_sem]) (.inl rfl) (by simp [go_sem]) (fun _ => ?_) (by simp [tabG, go_sem])
            simp (disch := omega) [go_sem]
            refine callK_data hwo [] (by simp [go_sem]) (.inl rfl) (by simp [go_sem]) (fun _ => ?_)
            simp (disch := omega) [go_sem, sitV, nth_rows, hkb, rows_len, nth_ints, ints_len, hbr]
            refine round_of (withoutN t b, maxI m s.between[k][b]) ⟨withoutN_lt _ _, fun c hc => ?_, ?_⟩ ?_ (Le.mk [(0, some 0)] [0] ⟨rfl, rfl, rfl⟩ ?_ ?_ ?_)
            · rw [withoutN_testBit ht] at hc
              exact htb c (by simp at hc; exact hc.1)
            · rw [← htm, hst, g3]
            · simp at hlen ⊢; omega
            all_goals simp [go_sem, sitV, hp1, hp2, hp3, hp4, hp5, hp6, maxI]
          · subst h3
            rw [most_zero] at htm
            simp (disch := omega) [go_sem]
            refine round_of (k + 1) (by omega) (by omega) (Le.mk [(0, some 0)] [0] ⟨rfl, rfl, rfl⟩ ?_ ?_ ?_)
            all_goals simp [go_sem, sitV, hp1, hp2, hp3, hp4, hp5, hp6, htm]
      · have hA1 : A.testBit k = false := by simpa [hasN] using h1
        have hcs : clearK s A B (k + 1) = clearK s A B k := by rw [clearK_succ]; unfold clearRow; rw [if_neg (by simp [hA1])]
        simp (disch := omega) [go_sem]
        refine round_of (k + 1) (by omega) (by omega) (Le.mk [(0, some 0)] [0] ⟨rfl, rfl, rfl⟩ ?_ ?_ ?_)
        all_goals simp [go_sem, sitV, hp1, hp2, hp3, hp4, hp5, hp6, hcs]
    · have hkn : k = s.groups.length := by omega
      subst hkn
      simp (disch := omega) [go_sem]

/-! The layer site: what phases need, whether plans fit. -/
def minAt (s : Sit) (i : Nat) : Int := ((s.phases[i]?).map Pha.min).getD 0
def needsN (s : Sit) (i : Nat) : Int := minAt s i + clearN s i ((i + 1) % s.phases.length)
theorem needs_spec (s : Sit) (i : Nat) (hS : Shaped s) (hi : i < s.phases.length) (hw : 0 ≤ needsN s i ∧ needsN s i ≤ 4294967296) : FnD Tryz.prog 144 [sitV s, .int .i64 i] (.int .i64 (needsN s i)) tabG := by
  have hpu := (⟨grps_pure s.groups, phas_pure s.phases, eyes_pure s.eyes, plns_pure s.plans, sets_pure s.apart, rows_pure s.between⟩ : _ ∧ _ ∧ _ ∧ _ ∧ _ ∧ _)
  obtain ⟨hp1, hp2, hp3, hp4, hp5, hp6⟩ := hpu
  have hc := clear_spec s i ((i + 1) % s.phases.length) hS hi (Nat.mod_lt _ (by omega))
  obtain ⟨hn, ha, hb, hph, -, -, hrow⟩ := hS
  have hpi : nth (s.phases.map phaV) i = phaV s.phases[i] := nth_map hi
  have hmi : s.phases[i].min = minAt s i := by simp [minAt, hi]
  have hsv : sitV s = .agg [.int .i64 s.id, .sl 3 (s.groups.map grpV), .sl 1 (sets s.apart), .sl 1 (rows s.between), .sl 5 (s.phases.map phaV), .sl 4 (s.eyes.map eyeV), .int .i64 s.watch, .int .i64 s.feed, .int .i64 s.heal, .int .i64 s.low, .int .i64 s.high, .sl 3 (s.plans.map plnV)] := rfl
  rw [hsv] at hc ⊢
  refine fnD_of mixed Tryz.func144 rfl rfl (by simp [Tryz.ntmps144]) fun hwf E => ?_
  simp (disch := omega) [go_sem] at hwf
  have hmod : ((i : Int) + 1).tmod (s.phases.length : Int) = (((i + 1) % s.phases.length : Nat) : Int) := by
    rw [Int.tmod_eq_emod_of_nonneg (by omega)]; rfl
  have hph0 : ¬ s.phases.length = 0 := by omega
  simp (disch := omega) [Tryz.ntmps144, go_sem, hpi, phaV, hi, hmi, hmod, hph0]
  refine callK_data hc [] (by simp [go_sem, hp1, hp2, hp3, hp4, hp5, hp6]) (.inl rfl) (by simp [go_sem]) (fun _ => ?_) (by simp [tabG, go_sem])
  have hne : needsN s i = minAt s i + clearN s i ((i + 1) % s.phases.length) := rfl
  rw [hne] at hw ⊢
  simp (disch := omega) [go_sem]
  exact .inl (by kernel_rfl)

def leftK (p : Pln) (k : Nat) : Int := p.cycle - (p.splits.take k).sum
theorem leftK_succ (p : Pln) (k : Nat) (h : k < p.splits.length) : leftK p (k + 1) = leftK p k - p.splits[k] := by
  unfold leftK
  rw [List.take_succ_eq_append_getElem h, List.sum_append]; simp; omega
def fitAt (s : Sit) (p : Pln) (i : Nat) : Prop := needsN s i ≤ p.splits.getD i 0 ∧ p.splits.getD i 0 ≤ leftK p i
instance (s : Sit) (p : Pln) (i : Nat) : Decidable (fitAt s p i) := by unfold fitAt; infer_instance
def Fits (s : Sit) (p : Pln) : Prop := (s.low ≤ p.cycle ∧ p.cycle ≤ s.high) ∧ (0 ≤ p.offset ∧ p.offset ≤ p.cycle - 1) ∧ p.splits.length = s.phases.length ∧ (∀ i, i < p.splits.length → fitAt s p i) ∧ leftK p p.splits.length = 0
instance (s : Sit) (p : Pln) : Decidable (Fits s p) := by unfold Fits; infer_instance

/-- What the checks ahead tell of what phases need. -/
def NeedsOk (s : Sit) : Prop := ∀ i, i < s.phases.length → 0 ≤ needsN s i ∧ needsN s i ≤ 4294967296
theorem fits_spec (s : Sit) (p : Pln) (hS : Shaped s) (hN : NeedsOk s) (hL : 0 ≤ s.low ∧ s.high ≤ 1048576) : FnD Tryz.prog 71 [sitV s, plnV p] (.bool (decide (Fits s p))) tabG := by
  have hpu := (⟨grps_pure s.groups, phas_pure s.phases, eyes_pure s.eyes, plns_pure s.plans, sets_pure s.apart, rows_pure s.between⟩ : _ ∧ _ ∧ _ ∧ _ ∧ _ ∧ _)
  obtain ⟨hp1, hp2, hp3, hp4, hp5, hp6⟩ := hpu
  have hne := fun i hi => needs_spec s i hS hi (hN i hi)
  have hsv : sitV s = .agg [.int .i64 s.id, .sl 3 (s.groups.map grpV), .sl 1 (sets s.apart), .sl 1 (rows s.between), .sl 5 (s.phases.map phaV), .sl 4 (s.eyes.map eyeV), .int .i64 s.watch, .int .i64 s.feed, .int .i64 s.heal, .int .i64 s.low, .int .i64 s.high, .sl 3 (s.plans.map plnV)] := rfl
  have hpv : plnV p = .agg [.int .i64 p.cycle, .int .i64 p.offset, .sl 1 (ints p.splits)] := rfl
  rw [hsv] at hne ⊢
  rw [hpv]
  refine fnD_of mixed Tryz.func71 rfl rfl (by simp [Tryz.ntmps71]) fun hwf E => ?_
  simp (disch := omega) [go_sem, ints_len] at hwf
  simp (disch := omega) [Tryz.ntmps71, go_sem]
  refine callK_bool (in_spec p.cycle s.low s.high) [] (by simp [go_sem]) (fun h1 => ?_) (fun h1 => ?_)
  · rw [inN_iff] at h1
    simp (disch := omega) [go_sem]
    refine callK_bool (in_spec p.offset 0 (p.cycle - 1)) [] (by simp [go_sem]) (fun h2 => ?_) (fun h2 => ?_)
    · rw [inN_iff] at h2
      simp (disch := omega) [go_sem, ints_len]
      refine br_of (fun h3 => ?_) (fun h3 => ?_) <;> simp at h3
      · simp (disch := omega) [go_sem]
        rintro ⟨_, _, a, _⟩; omega
      · have hl : p.splits.length = s.phases.length := by omega
        simp (disch := omega) [go_sem, ints_len]
        have hz : leftK p 0 = p.cycle := by simp [leftK]
        refine awz_loop mixed (fun k : Nat => ⟨[(39, .int .i64 k), (38, .int .i64 p.splits.length), (37, .sl 1 (ints p.splits)), (5, .int .i64 (leftK p k)), (2, .ptr 0 1 0 0), (4, .bool false)], [(0, ⟨.box, 87, 12, [sitV s]⟩)], 2048, [], 57, 0, tabG⟩)
          (fun k => k ≤ p.splits.length ∧ (0 ≤ leftK p k ∧ leftK p k ≤ 1048576) ∧ ∀ i, i < k → fitAt s p i) (fun k => p.splits.length - k) 0 ⟨by omega, by rw [hz]; omega, fun i hi => by omega⟩ ?_ ?_
        · refine Le.mk [(0, some 0)] [0] ⟨rfl, rfl, rfl⟩ ?_ ?_ ?_ <;> simp [go_sem, sitV, hp1, hp2, hp3, hp4, hp5, hp6, ints_pure, hz]
        · rintro k ⟨hk, hlk, hno⟩
          simp (disch := omega) [go_sem]
          refine br_of (fun h => ?_) (fun h => ?_) <;> simp at h
          · have hnk := hN k (by omega)
            have g1 : p.splits.getD k 0 = p.splits[k] := by simp [h]
            have hfa : fitAt s p k ↔ inN p.splits[k] (needsN s k) (leftK p k) = true := by unfold fitAt; rw [g1, inN_iff]
            have hls := leftK_succ p k h
            simp (disch := omega) [go_sem, ints_len, nth_ints, h, sitV]
            refine callK_data (hne k (by omega)) [] (by simp [go_sem, hp1, hp2, hp3, hp4, hp5, hp6]) (.inl rfl) (by simp [go_sem]) (fun _ => ?_) (by simp [tabG, go_sem])
            simp (disch := omega) [go_sem]
            refine callK_bool (in_spec p.splits[k] (needsN s k) (leftK p k)) [] (by simp [go_sem]) (fun h4 => ?_) (fun h4 => ?_)
            · have h5 := inN_iff.1 h4
              simp (disch := omega) [go_sem]
              refine round_of (k + 1) ⟨by omega, by omega, fun j hj => ?_⟩ (by omega) (Le.mk [(0, some 0)] [0] ⟨rfl, rfl, rfl⟩ ?_ ?_ ?_)
              · by_cases e : j = k
                · subst e; exact hfa.2 h4
                · exact hno j (by omega)
              all_goals simp [go_sem, sitV, hp1, hp2, hp3, hp4, hp5, hp6, ints_pure, hls]
            · simp (disch := omega) [go_sem]
              rintro ⟨_, _, _, hall, _⟩
              have := hfa.1 (hall k h)
              rw [h4] at this; cases this
          · have hkl : k = p.splits.length := by omega
            subst hkl
            simp (disch := omega) [go_sem]
            rw [Bool.eq_iff_iff]
            simp
            constructor
            · intro h5; exact ⟨h1, h2, hl, hno, h5⟩
            · rintro ⟨_, _, _, _, h5⟩; exact h5
    · simp (disch := omega) [go_sem]
      rintro ⟨_, a, _⟩
      rw [← inN_iff] at a; simp [h2] at a
  · simp (disch := omega) [go_sem]
    rintro ⟨a, _⟩
    rw [← inN_iff] at a; simp [h1] at a

/-! The layer site: plans and times. -/
theorem planned_spec (s : Sit) (hS : Shaped s) (hN : NeedsOk s) (hL : 0 ≤ s.low ∧ s.high ≤ 1048576) : FnD Tryz.prog 143 [sitV s] (.bool (s.plans.all fun p => decide (Fits s p))) tabG := by
  have hpu := (⟨grps_pure s.groups, phas_pure s.phases, eyes_pure s.eyes, plns_pure s.plans, sets_pure s.apart, rows_pure s.between⟩ : _ ∧ _ ∧ _ ∧ _ ∧ _ ∧ _)
  obtain ⟨hp1, hp2, hp3, hp4, hp5, hp6⟩ := hpu
  have hf := fun p => fits_spec s p hS hN hL
  have hsv : sitV s = .agg [.int .i64 s.id, .sl 3 (s.groups.map grpV), .sl 1 (sets s.apart), .sl 1 (rows s.between), .sl 5 (s.phases.map phaV), .sl 4 (s.eyes.map eyeV), .int .i64 s.watch, .int .i64 s.feed, .int .i64 s.heal, .int .i64 s.low, .int .i64 s.high, .sl 3 (s.plans.map plnV)] := rfl
  rw [hsv] at hf ⊢
  refine fnD_of mixed Tryz.func143 rfl rfl (by simp [Tryz.ntmps143]) fun hwf E => ?_
  simp (disch := omega) [go_sem] at hwf
  simp (disch := omega) [Tryz.ntmps143, go_sem]
  refine awz_loop mixed (fun k : Nat => ⟨[(8, .int .i64 k), (7, .int .i64 s.plans.length), (6, .sl 3 (s.plans.map plnV)), (1, .ptr 0 1 0 0), (2, .bool false)], [(0, ⟨.box, 87, 12, [sitV s]⟩)], 1024, [], 17, 0, tabG⟩)
    (fun k => k ≤ s.plans.length ∧ ∀ j (h : j < s.plans.length), j < k → Fits s s.plans[j]) (fun k => s.plans.length - k) 0 (by simp) ?_ ?_
  · refine Le.mk [(0, some 0)] [0] ⟨rfl, rfl, rfl⟩ ?_ ?_ ?_ <;> simp [go_sem, sitV, hp1, hp2, hp3, hp4, hp5, hp6]
  · rintro k ⟨hk, hno⟩
    simp (disch := omega) [go_sem, sitV]
    refine br_of (fun h => ?_) (fun h => ?_) <;> simp at h
    · have he : nth (s.plans.map plnV) k = plnV s.plans[k] := nth_map h
      simp (disch := omega) [go_sem, h, he, plnV, sitV]
      refine callK_bool (hf s.plans[k]) [] (by simp [go_sem, plnV, hp1, hp2, hp3, hp4, hp5, hp6, ints_pure]) (fun h1 => ?_) (fun h1 => ?_) (by simp [tabG, go_sem])
      · simp at h1
        simp (disch := omega) [go_sem]
        refine round_of (k + 1) ⟨by omega, fun j h4 hj => ?_⟩ (by omega) (Le.mk [(0, some 0)] [0] ⟨rfl, rfl, rfl⟩ ?_ ?_ ?_)
        · by_cases e : j = k
          · subst e; exact h1
          · exact hno j h4 (by omega)
        all_goals simp [go_sem, sitV, hp1, hp2, hp3, hp4, hp5, hp6]
      · simp at h1
        simp (disch := omega) [go_sem]
        exact ⟨s.plans[k], List.getElem_mem h, h1⟩
    · simp (disch := omega) [go_sem]
      intro x hx
      obtain ⟨j, hj, rfl⟩ := List.getElem_of_mem hx
      exact hno j hj (by omega)

def roundK (s : Sit) (k : Nat) : Int := ((List.range k).map (needsN s)).sum
theorem roundK_succ (s : Sit) (k : Nat) : roundK s (k + 1) = roundK s k + needsN s k := by
  unfold roundK
  rw [List.range_succ, List.map_append, List.sum_append]; simp
theorem roundK_bound (s : Sit) (hN : NeedsOk s) : ∀ k, k ≤ s.phases.length → 0 ≤ roundK s k ∧ roundK s k ≤ 4294967296 * k
  | 0, _ => by simp [roundK]
  | k + 1, h => by
    have := roundK_bound s hN k (by omega)
    have := hN k (by omega)
    rw [roundK_succ]; omega
def timedN (s : Sit) : Bool := [s.watch, s.feed, s.heal, s.low, s.high].all (fun x => inN x 1 1048576) && decide (roundK s s.phases.length ≤ s.low) && decide (s.low ≤ s.high)
theorem timed_spec (s : Sit) (hS : Shaped s) (hN : NeedsOk s) : FnD Tryz.prog 142 [sitV s] (.bool (timedN s)) tabG := by
  have hpu := (⟨grps_pure s.groups, phas_pure s.phases, eyes_pure s.eyes, plns_pure s.plans, sets_pure s.apart, rows_pure s.between⟩ : _ ∧ _ ∧ _ ∧ _ ∧ _ ∧ _)
  obtain ⟨hp1, hp2, hp3, hp4, hp5, hp6⟩ := hpu
  have hne := fun i hi => needs_spec s i hS hi (hN i hi)
  have hph8 : s.phases.length ≤ 8 := hS.2.2.2.1.2
  have hsv : sitV s = .agg [.int .i64 s.id, .sl 3 (s.groups.map grpV), .sl 1 (sets s.apart), .sl 1 (rows s.between), .sl 5 (s.phases.map phaV), .sl 4 (s.eyes.map eyeV), .int .i64 s.watch, .int .i64 s.feed, .int .i64 s.heal, .int .i64 s.low, .int .i64 s.high, .sl 3 (s.plans.map plnV)] := rfl
  rw [hsv] at hne ⊢
  refine fnD_of mixed Tryz.func142 rfl rfl (by simp [Tryz.ntmps142]) fun hwf E => ?_
  simp (disch := omega) [go_sem] at hwf
  simp (disch := omega) [Tryz.ntmps142, go_sem]
  refine awz_loop mixed (fun k : Nat => ⟨[(8, .int .i64 k), (7, .int .i64 s.phases.length), (3, .int .i64 (roundK s k)), (1, .ptr 0 1 0 0), (2, .bool false)], [(0, ⟨.box, 87, 12, [sitV s]⟩)], 1024, [], 42, 0, tabG⟩)
    (fun k => k ≤ s.phases.length) (fun k => s.phases.length - k) 0 (by simp) ?_ ?_
  · refine Le.mk [(0, some 0)] [0] ⟨rfl, rfl, rfl⟩ ?_ ?_ ?_ <;> simp [go_sem, sitV, hp1, hp2, hp3, hp4, hp5, hp6, roundK]
  · intro k hk
    have hb := roundK_bound s hN k hk
    simp (disch := omega) [go_sem, sitV]
    refine br_of (fun h => ?_) (fun h => ?_) <;> simp at h
    · have hnk := hN k h
      simp (disch := omega) [go_sem, sitV]
      refine callK_data (hne k h) [] (by simp [go_sem, hp1, hp2, hp3, hp4, hp5, hp6]) (.inl rfl) (by simp [go_sem]) (fun _ => ?_) (by simp [tabG, go_sem])
      simp (disch := omega) [go_sem]
      refine round_of (k + 1) (by omega) (by omega) (Le.mk [(0, some 0)] [0] ⟨rfl, rfl, rfl⟩ ?_ ?_ ?_)
      all_goals simp [go_sem, sitV, hp1, hp2, hp3, hp4, hp5, hp6, roundK_succ]
    · have hkl : k = s.phases.length := by omega
      subst hkl
      simp (disch := omega) [go_sem, sitV]
      refine callK_bool (ticks_spec [s.watch, s.feed, s.heal, s.low, s.high]) [1200] (by simp [go_sem, ints]) (fun h2 => ?_) (fun h2 => ?_)
      · simp (disch := omega) [go_sem, timedN, h2]
      · simp (disch := omega) [go_sem, timedN, h2]
end Go.Proofs.YtdeionjkcmpnpaaGreatDoor
