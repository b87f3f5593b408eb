
/- The layer plan: the plan of a site that is next to any one. -/
import Derived.Test.YtdeionjkcmpnpaaDoorAskP
import Derived.Test.YtdeionjkcmpnpaaDoorFit17
set_option linter.unusedSimpArgs false
set_option linter.unusedVariables false
namespace Go.Proofs.YtdeionjkcmpnpaaDoor
open Go.AM Go.RowKit
set_option maxRecDepth 100000

theorem pnext_spec (s : Sit) (i : Nat) (hi : i < s.phases.length) : FnD Tryd.prog 172 [sitV s, .int .i64 i] (.int .i64 ((i + 1) % s.phases.length : Nat)) := by
  unfold sitV
  refine fnD_of mixed Tryd.func172 rfl rfl (by simp [Tryd.ntmps172]) fun hwf E => ?_
  simp (disch := omega) [go_sem, sets_len, rows_len] at hwf
  have e1 : ((i : Int) + 1).tmod s.phases.length = (((i + 1) % s.phases.length : Nat) : Int) := by
    rw [Int.tmod_eq_emod_of_nonneg (by omega)]; simp
  simp (disch := omega) [Tryd.ntmps172, go_sem, e1]
  intro h
  simp [h] at hi
theorem pclear_spec (s : Sit) (i : Nat) (hOk : SiteOk s) (hi : i < s.phases.length) : FnD Tryd.prog 151 [sitV s, .int .i64 i] (.int .i64 (clearN s i ((i + 1) % s.phases.length))) tabG := by
  have hpu := (⟨grps_pure s.groups, phas_pure s.phases, eyes_pure s.eyes, plns_pure s.plans, sets_pure s.apart, rows_pure s.between⟩ : _ ∧ _ ∧ _ ∧ _ ∧ _ ∧ _)
  obtain ⟨hp1, hp2, hp3, hp4, hp5, hp6⟩ := hpu
  have qn := pnext_spec s i hi
  have hj : (i + 1) % s.phases.length < s.phases.length := Nat.mod_lt _ (by omega)
  generalize (i + 1) % s.phases.length = j at *
  have qc := sclear_spec s i j
  have ha : askN s (s.phases.length : Int) [(i : Int), (j : Int)] = 0 := askN_ok hOk (by omega)
  rw [ha] at qc
  simp only [if_true, Int.toNat_natCast] at qc
  have hsv : sitV s = .agg [.int .i64 s.id, .sl 3 (s.groups.map grpV), .sl 1 (sets s.apart), .sl 1 (rows s.between), .sl 5 (s.phases.map phaV), .sl 4 (s.eyes.map eyeV), .int .i64 s.watch, .int .i64 s.feed, .int .i64 s.heal, .int .i64 s.low, .int .i64 s.high, .sl 3 (s.plans.map plnV)] := rfl
  rw [hsv] at qn qc ⊢
  refine fnD_of mixed Tryd.func151 rfl rfl (by simp [Tryd.ntmps151]) fun hwf E => ?_
  clear hwf
  simp (disch := omega) [Tryd.ntmps151, go_sem]
  refine callK_data qn [] (by simp [go_sem, hp1, hp2, hp3, hp4, hp5, hp6]) (.inl rfl) (by simp [go_sem]) (fun _ => ?_)
  simp (disch := omega) [go_sem]
  refine callK_data qc [] (by simp [go_sem, hp1, hp2, hp3, hp4, hp5, hp6]) (.inl rfl) (by simp [go_sem]) (fun _ => ?_) (by simp [tabG, go_sem])
  simp (disch := omega) [go_sem]
  exact .inl (by kernel_rfl)

/-! plan.Clamp -/
def cycC (s : Sit) (p : Pln) : Int := if s.high < (if p.cycle < s.low then s.low else p.cycle) then s.high else (if p.cycle < s.low then s.low else p.cycle)
def wishP (s : Sit) (p : Pln) (i : Nat) : Int := if 0 < (if s.high < (if 0 < p.splits.getD i 0 then p.splits.getD i 0 else 0) then s.high else (if 0 < p.splits.getD i 0 then p.splits.getD i 0 else 0)) - needsN s i then (if s.high < (if 0 < p.splits.getD i 0 then p.splits.getD i 0 else 0) then s.high else (if 0 < p.splits.getD i 0 then p.splits.getD i 0 else 0)) - needsN s i else 0
theorem wishP_bound {s : Sit} {p : Pln} (i : Nat) (hL : 0 ≤ s.low ∧ s.high ≤ 1048576) (hN : 0 ≤ needsN s i) : 0 ≤ wishP s p i ∧ wishP s p i ≤ 1048576 := by
  unfold wishP
  generalize p.splits.getD i 0 = x at *
  repeat' split
  all_goals omega
theorem wishP_none {s : Sit} {p : Pln} (i : Nat) (hL : 0 ≤ s.high) (hN : 0 ≤ needsN s i) (h : p.splits.length ≤ i) : wishP s p i = 0 := by
  unfold wishP
  rw [show p.splits.getD i 0 = 0 by simp [List.getD, h]]
  simp
  repeat' split
  all_goals omega
def allC (s : Sit) (p : Pln) : Nat → Int
  | 0 => 0
  | k + 1 => allC s p k + wishP s p k
def restC (s : Sit) (c : Int) : Nat → Int
  | 0 => c
  | k + 1 => restC s c k - needsN s k
def firstC (s : Sit) (p : Pln) : Nat → Int
  | 0 => -1
  | k + 1 => if 0 < wishP s p k ∧ firstC s p k < 0 then k else firstC s p k
theorem firstC_yes {s : Sit} {p : Pln} {k : Nat} (h : 0 < wishP s p k ∧ firstC s p k < 0) : firstC s p (k + 1) = k := by
  show (if _ then _ else _) = _
  rw [if_pos h]
theorem firstC_no {s : Sit} {p : Pln} {k : Nat} (h : ¬ (0 < wishP s p k ∧ firstC s p k < 0)) : firstC s p (k + 1) = firstC s p k := by
  show (if _ then _ else _) = _
  rw [if_neg h]
theorem firstC_bound (s : Sit) (p : Pln) : ∀ k, -1 ≤ firstC s p k ∧ firstC s p k < k
  | 0 => by simp [firstC]
  | k + 1 => by
    have := firstC_bound s p k
    unfold firstC
    split <;> omega
theorem allC_bound {s : Sit} {p : Pln} (hL : 0 ≤ s.low ∧ s.high ≤ 1048576) (hN : NeedsOk s) : ∀ k, k ≤ s.phases.length → 0 ≤ allC s p k ∧ allC s p k ≤ 1048576 * k
  | 0, _ => by simp [allC]
  | k + 1, h => by
    have := allC_bound (p := p) hL hN k (by omega)
    have := wishP_bound (p := p) k hL (hN k (by omega)).1
    unfold allC
    omega
theorem restC_round {s : Sit} {c : Int} : ∀ k, restC s c k + roundK s k = c
  | 0 => by simp [restC, roundK]
  | k + 1 => by
    have := restC_round (s := s) (c := c) k
    rw [roundK_succ]
    unfold restC
    omega
theorem roundK_mono {s : Sit} (hN : NeedsOk s) {k m : Nat} (h : k ≤ m) (hm : m ≤ s.phases.length) : roundK s k ≤ roundK s m := by
  induction m with
  | zero => obtain rfl : k = 0 := by omega
            omega
  | succ m ih =>
    by_cases e : k = m + 1
    · subst e; omega
    · have := ih (by omega) (by omega)
      have := hN m (by omega)
      rw [roundK_succ]
      omega
theorem restC_bound {s : Sit} {c : Int} (hN : NeedsOk s) (hc : roundK s s.phases.length ≤ c ∧ c ≤ 1048576) {k : Nat} (h : k ≤ s.phases.length) : 0 ≤ restC s c k ∧ restC s c k ≤ 1048576 := by
  have h1 := restC_round (s := s) (c := c) k
  have h2 := roundK_mono hN h (Nat.le_refl _)
  have h3 := roundK_bound s hN k h
  omega
def wl (s : Sit) (p : Pln) (k : Nat) : List Int := (List.range s.phases.length).map fun i => if i < k then wishP s p i else 0
theorem wl_len (s : Sit) (p : Pln) (k : Nat) : (wl s p k).length = s.phases.length := by simp [wl]
theorem wl_zero (s : Sit) (p : Pln) : ints (wl s p 0) = List.replicate s.phases.length (V.int .i64 0) := by
  simp [wl, ints, List.map_const']
theorem wl_at {s : Sit} {p : Pln} {k i : Nat} (h : i < s.phases.length) : (wl s p k)[i]'(by rw [wl_len]; exact h) = if i < k then wishP s p i else 0 := by simp [wl]
theorem wl_set {s : Sit} {p : Pln} {k : Nat} (h : k < s.phases.length) : (wl s p k).set k (wishP s p k) = wl s p (k + 1) := by
  apply List.ext_getElem
  · simp [wl_len]
  · intro i h1 h2
    rw [List.length_set, wl_len] at h1
    rw [List.getElem_set, wl_at h1, wl_at h1]
    by_cases e : k = i
    · subst e; simp
    · rw [if_neg e]
      by_cases g : i < k
      · rw [if_pos g, if_pos (by omega)]
      · rw [if_neg g, if_neg (by omega)]
theorem wl_same {s : Sit} {p : Pln} {k : Nat} (h : k < s.phases.length) (hz : wishP s p k = 0) : wl s p (k + 1) = wl s p k := by
  rw [← wl_set h, hz]
  apply List.ext_getElem
  · simp
  · intro i h1 h2
    rw [List.getElem_set]
    by_cases e : k = i
    · subst e; rw [if_pos rfl, wl_at h]; simp
    · rw [if_neg e]
theorem ints_set (l : List Int) (k : Nat) (x : Int) : (ints l).set k (.int .i64 x) = ints (l.set k x) := by simp [ints, List.map_set]
def leastL (s : Sit) (k : Nat) : List Int := (List.range k).map (needsN s)
theorem leastL_len (s : Sit) (k : Nat) : (leastL s k).length = k := by simp [leastL]
theorem leastL_succ (s : Sit) (k : Nat) : leastL s (k + 1) = leastL s k ++ [needsN s k] := by simp [leastL, List.range_succ]
noncomputable def shareC (s : Sit) (p : Pln) (c : Int) (i : Nat) : Int := if 0 < allC s p s.phases.length then restC s c s.phases.length * wishP s p i / allC s p s.phases.length else 0
noncomputable def leftC (s : Sit) (p : Pln) (c : Int) : Nat → Int
  | 0 => restC s c s.phases.length
  | k + 1 => leftC s p c k - shareC s p c k
noncomputable def sl2 (s : Sit) (p : Pln) (c : Int) (k : Nat) : List Int := (List.range s.phases.length).map fun i => if i < k then needsN s i + shareC s p c i else needsN s i
theorem sl2_len (s : Sit) (p : Pln) (c : Int) (k : Nat) : (sl2 s p c k).length = s.phases.length := by simp [sl2]
theorem sl2_zero (s : Sit) (p : Pln) (c : Int) : sl2 s p c 0 = leastL s s.phases.length := by simp [sl2, leastL]
theorem sl2_at {s : Sit} {p : Pln} {c : Int} {k i : Nat} (h : i < s.phases.length) : (sl2 s p c k)[i]'(by rw [sl2_len]; exact h) = if i < k then needsN s i + shareC s p c i else needsN s i := by simp [sl2]
theorem sl2_set {s : Sit} {p : Pln} {c : Int} {k : Nat} (h : k < s.phases.length) : (sl2 s p c k).set k (needsN s k + shareC s p c k) = sl2 s p c (k + 1) := by
  apply List.ext_getElem
  · simp [sl2_len]
  · intro i h1 h2
    rw [List.length_set, sl2_len] at h1
    rw [List.getElem_set, sl2_at h1, sl2_at h1]
    by_cases e : k = i
    · subst e; simp
    · rw [if_neg e]
      by_cases g : i < k
      · rw [if_pos g, if_pos (by omega)]
      · rw [if_neg g, if_neg (by omega)]

theorem sl2_same {s : Sit} {p : Pln} {c : Int} {k : Nat} (h : k < s.phases.length) (hz : shareC s p c k = 0) : sl2 s p c (k + 1) = sl2 s p c k := by
  rw [← sl2_set h, hz]
  apply List.ext_getElem
  · simp
  · intro i h1 h2
    rw [List.getElem_set]
    by_cases e : k = i
    · subst e; rw [if_pos rfl, sl2_at h]; simp
    · rw [if_neg e]
theorem shareC_bound {s : Sit} {p : Pln} {c : Int} (hL : 0 ≤ s.low ∧ s.high ≤ 1048576) (hN : NeedsOk s) (hc : roundK s s.phases.length ≤ c ∧ c ≤ 1048576) {k : Nat} (h : k < s.phases.length) :
    (0 ≤ restC s c s.phases.length * wishP s p k ∧ restC s c s.phases.length * wishP s p k ≤ 1099511627776) ∧ 0 ≤ shareC s p c k ∧ shareC s p c k ≤ 1099511627776 ∧
    (0 < allC s p s.phases.length → (restC s c s.phases.length * wishP s p k).tdiv (allC s p s.phases.length) = shareC s p c k) := by
  have a1 := restC_bound hN hc (Nat.le_refl s.phases.length)
  have a2 := wishP_bound (p := p) k hL (hN k h).1
  have b0 : 0 ≤ restC s c s.phases.length * wishP s p k := Int.mul_nonneg a1.1 a2.1
  have b1 : restC s c s.phases.length * wishP s p k ≤ 1048576 * 1048576 := Int.mul_le_mul a1.2 a2.2 a2.1 (by omega)
  refine ⟨⟨b0, by omega⟩, ?_⟩
  unfold shareC
  split
  · rename_i g
    refine ⟨Int.ediv_nonneg b0 (by omega), ?_, fun _ => Int.tdiv_eq_ediv_of_nonneg b0⟩
    have := Int.ediv_le_self (allC s p s.phases.length) b0
    omega
  · rename_i g
    exact ⟨by omega, by omega, fun e => absurd e g⟩
theorem leftC_bound {s : Sit} {p : Pln} {c : Int} (hL : 0 ≤ s.low ∧ s.high ≤ 1048576) (hN : NeedsOk s) (hc : roundK s s.phases.length ≤ c ∧ c ≤ 1048576) : ∀ k, k ≤ s.phases.length → -(1099511627776 * k) ≤ leftC s p c k ∧ leftC s p c k ≤ 1048576
  | 0, _ => by
    have a1 := restC_bound hN hc (Nat.le_refl s.phases.length)
    unfold leftC
    omega
  | k + 1, h => by
    have := leftC_bound (p := p) hL hN hc k (by omega)
    have := (shareC_bound (p := p) hL hN hc (k := k) (by omega)).2
    unfold leftC
    omega

noncomputable def clampL (s : Sit) (p : Pln) (c : Int) : List Int := (sl2 s p c s.phases.length).set (firstC s p s.phases.length).toNat ((sl2 s p c s.phases.length).getD (firstC s p s.phases.length).toNat 0 + leftC s p c s.phases.length)
/-- The plan of a site that is next to any one. -/
noncomputable def clampN (s : Sit) (p : Pln) : Pln := ⟨cycC s p, (p.offset.tmod (cycC s p) + cycC s p).tmod (cycC s p), clampL s p (cycC s p)⟩

def clS (s : Sit) (p : Pln) (c o : Int) (sl : List (Nat × V)) (hp : List (Nat × AM.Obj)) (sp : V) (k nx : Nat) : St := ⟨sl ++ [(11, .obj 656 s.phases.length), (7, .ptr 288 1 0 0), (5, .int .i64 0), (4, .ptr 32 1 0 0), (3, .ptr 16 1 0 0), (2, .ptr 0 1 0 0)], hp ++ [(656, ⟨.arr, 3, 1, ints (wl s p k)⟩), (288, ⟨.box, 36, 3, [.agg [.int .i64 c, .int .i64 o, sp]]⟩), (32, ⟨.box, 36, 3, [.agg [.int .i64 0, .int .i64 0, .nilS]]⟩), (16, ⟨.box, 36, 3, [plnV p]⟩), (0, ⟨.box, 29, 12, [sitV s]⟩)], nx, [], 150, 0, tabG⟩
def cl1F (s : Sit) (p : Pln) (c o : Int) : Nat → St
  | 0 => clS s p c o [(54, .int .i64 0), (53, .int .i64 s.phases.length), (52, .sl 5 (s.phases.map phaV)), (10, .int .i64 (-1)), (9, .int .i64 0), (8, .int .i64 c)] [] .nilS 0 2048
  | k + 1 => clS s p c o [(54, .int .i64 (k + 1 : Nat)), (53, .int .i64 s.phases.length), (52, .sl 5 (s.phases.map phaV)), (10, .int .i64 (firstC s p (k + 1))), (9, .int .i64 (allC s p (k + 1))), (8, .int .i64 (restC s c (k + 1)))] [(1008, ⟨.arr, 3, 1, ints (leastL s (k + 1))⟩)] (.obj 1008 (k + 1)) (k + 1) 2048
noncomputable def cl2F (s : Sit) (p : Pln) (c o : Int) (k : Nat) : St :=
  clS s p c o [(115, .int .i64 k), (114, .int .i64 s.phases.length), (15, .int .i64 (leftC s p c k)), (10, .int .i64 (firstC s p s.phases.length)), (9, .int .i64 (allC s p s.phases.length)), (8, .int .i64 (restC s c s.phases.length))] [(1008, ⟨.arr, 3, 1, ints (sl2 s p c k)⟩)] (.obj 1008 s.phases.length) s.phases.length 4096

set_option maxHeartbeats 4000000 in
theorem clamp_spec (s : Sit) (p : Pln) (hOk : SiteOk s) : FnD Tryd.prog 110 [sitV s, plnV p] (.tup [plnV (clampN s p), .int .i64 0]) tabG := by
  have hpu := (⟨grps_pure s.groups, phas_pure s.phases, eyes_pure s.eyes, plns_pure s.plans, sets_pure s.apart, rows_pure s.between⟩ : _ ∧ _ ∧ _ ∧ _ ∧ _ ∧ _)
  obtain ⟨hp1, hp2, hp3, hp4, hp5, hp6⟩ := hpu
  have hip := ints_pure p.splits
  have qc := check_spec s
  have qk := fun i hi => pclear_spec s i hOk hi
  rw [checkN_ok hOk] at qc
  have hsv : sitV s = .agg [.int .i64 s.id, .sl 3 (s.groups.map grpV), .sl 1 (sets s.apart), .sl 1 (rows s.between), .sl 5 (s.phases.map phaV), .sl 4 (s.eyes.map eyeV), .int .i64 s.watch, .int .i64 s.feed, .int .i64 s.heal, .int .i64 s.low, .int .i64 s.high, .sl 3 (s.plans.map plnV)] := rfl
  have hpv : plnV p = .agg [.int .i64 p.cycle, .int .i64 p.offset, .sl 1 (ints p.splits)] := rfl
  have hcv : plnV (clampN s p) = .agg [.int .i64 (cycC s p), .int .i64 ((p.offset.tmod (cycC s p) + cycC s p).tmod (cycC s p)), .sl 1 (ints (clampL s p (cycC s p)))] := rfl
  rw [hsv] at qc qk ⊢
  rw [hpv, hcv]
  refine fnD_of mixed Tryd.func110 rfl rfl (by simp [Tryd.ntmps110]) fun hwf E => ?_
  simp (disch := omega) [go_sem, sets_len, rows_len, ints_len] at hwf
  simp (disch := omega) [Tryd.ntmps110, go_sem]
  refine callK_data qc [] (by simp [go_sem, hp1, hp2, hp3, hp4, hp5, hp6]) (.inl rfl) (by simp [go_sem]) (fun _ => ?_) (by simp [tabG, go_sem])
  have hL := hOk.low
  have hN := hOk.needs
  have h4 : timedN s = true := hOk 4 (by omega)
  simp [timedN, inN] at h4
  have h8 := (groups_site.1 hOk).2.1.1
  have hrb : roundK s s.phases.length ≤ cycC s p ∧ cycC s p ≤ 1048576 := by unfold cycC; repeat' split <;> omega
  have hc1 : 1 ≤ cycC s p := by unfold cycC; repeat' split <;> omega
  simp (disch := omega) [go_sem]
  have hcc : (if s.high < if p.cycle < s.low then s.low else p.cycle then s.high else if p.cycle < s.low then s.low else p.cycle) = cycC s p := rfl
  simp only [hcc]
  generalize cycC s p = c at *
  have hm1 := Int.tmod_lt_of_pos p.offset (show 0 < c by omega)
  have hm2 := Int.lt_tmod_of_pos p.offset (show 0 < c by omega)
  have hwr : IntKind.i64.wrap (p.offset.tmod c + c) = p.offset.tmod c + c := i64_wrap (by omega) (by omega)
  rw [hwr]
  have ho : 0 ≤ (p.offset.tmod c + c).tmod c ∧ (p.offset.tmod c + c).tmod c < c := by
    refine ⟨?_, Int.tmod_lt_of_pos _ (by omega)⟩
    exact Int.tmod_nonneg _ (by omega)
  generalize (p.offset.tmod c + c).tmod c = f at *
  refine ⟨by omega, .inl (by kernel_rfl), ?_⟩
  try simp (disch := omega) [go_sem]
  refine ⟨by omega, ?_⟩
  have hwz := wl_zero s p
  rw [← hwz]
  have hpw0 := ints_pure (wl s p 0)
  refine awz_loop mixed (cl1F s p c f) (fun k => k ≤ s.phases.length) (fun k => s.phases.length - k) 0 (by omega) ?_ ?_
  · refine (Le.mk [(0, some 0), (16, some 16), (32, some 32), (288, some 288), (656, some 656)] [0, 16, 32, 288, 656] ⟨rfl, rfl, rfl⟩ ?_ ?_ ?_) <;> simp [go_sem, cl1F, clS, sitV, plnV, hp1, hp2, hp3, hp4, hp5, hp6, hip, hpw0]
  · intro k hk
    have hpw := ints_pure (wl s p k)
    cases k with
    | zero =>
      simp (disch := omega) [go_sem, cl1F, clS, sitV, plnV, ints_len]
      refine br_of (fun h => ?_) (fun h => ?_) <;> simp at h
      · have hkp : 0 < s.phases.length := by omega
        have hi2 : nth (s.phases.map phaV) 0 = phaV s.phases[0] := nth_map hkp
        have eM : s.phases[0].min = minAt s 0 := by simp [minAt, hkp]
        have hNd : needsN s 0 = minAt s 0 + clearN s 0 ((0 + 1) % s.phases.length) := rfl
        have hl1 : ints (leastL s 1) = [.int .i64 (needsN s 0)] := by simp [leastL, ints]
        have hNk := hN 0 hkp
        have qkk := qk 0 hkp
        have hwb := wishP_bound (p := p) 0 hL hNk.1
        have hab := allC_bound (p := p) hL hN 0 (by omega)
        have hrb2 := restC_bound hN hrb (k := 0) (by omega)
        have hfb := firstC_bound s p 0
        generalize clearN s 0 ((0 + 1) % s.phases.length) = d at *
        rw [hNd] at hNk
        simp (disch := omega) [go_sem, hkp, hi2, phaV, eM]
        refine callK_data qkk [] (by simp [go_sem, hp1, hp2, hp3, hp4, hp5, hp6]) (.inl rfl) (by simp [go_sem]) (fun _ => ?_) (by simp [tabG, go_sem])
        simp (disch := omega) [go_sem, hkp]
        refine ⟨.inl (by kernel_rfl), ?_⟩
        have hn0 : nth (ints (wl s p 0)) 0 = .int .i64 0 := by rw [nth_ints (by rw [wl_len]; exact hkp), wl_at hkp]; simp
        refine br_of (fun h2 => ?_) (fun h2 => ?_) <;> simp [ints_len] at h2
        · have h2' : 0 < p.splits.length := by first | omega | exact List.length_pos_iff.2 h2
          simp (disch := omega) [go_sem, hkp, ints_len, wl_len, nth_ints, h2', hn0]
          refine ⟨.inl (by kernel_rfl), ?_⟩
          have hwe : (if minAt s 0 + d < (if s.high < if (0 : Int) < p.splits[0] then p.splits[0] else (0 : Int) then s.high else if (0 : Int) < p.splits[0] then p.splits[0] else (0 : Int)) then (if s.high < if (0 : Int) < p.splits[0] then p.splits[0] else (0 : Int) then s.high else if (0 : Int) < p.splits[0] then p.splits[0] else (0 : Int)) - (minAt s 0 + d) else 0) = wishP s p 0 := by
            unfold wishP
            rw [hNd, show p.splits.getD 0 0 = p.splits[0] by simp [h2']]
            generalize (if s.high < if (0 : Int) < p.splits[0] then p.splits[0] else (0 : Int) then s.high else if (0 : Int) < p.splits[0] then p.splits[0] else (0 : Int)) = y
            repeat' split
            all_goals omega
          simp only [hwe]
          rw [ints_set, wl_set hkp]
          have hpw' := ints_pure (wl s p (0 + 1))
          have hn1 : nth (ints (wl s p (0 + 1))) 0 = .int .i64 (wishP s p 0) := by rw [nth_ints (by rw [wl_len]; exact hkp), wl_at hkp]; simp
          simp (disch := omega) [go_sem, hkp, ints_len, wl_len, leastL_len, hn1]
          refine br_of (fun h3 => ?_) (fun h3 => ?_)
          · have hf1 := (show firstC s p (0 + 1) = ((0 : Nat) : Int) from firstC_yes ⟨by simpa using h3, by simp [firstC]⟩)
            simp (disch := omega) [go_sem, hkp, ints_len, wl_len, leastL_len, hn1]
            refine round_of 1 (by omega) (by omega) (Le.mk [(0, some 0), (16, some 16), (32, some 32), (288, some 288), (656, some 656), (1008, some 3024)] [0, 16, 32, 288, 656, 3024] ⟨rfl, rfl, rfl⟩ ?_ ?_ ?_) <;> simp [go_sem, cl1F, clS, sitV, plnV, hp1, hp2, hp3, hp4, hp5, hp6, hip, hpw', allC, restC, hf1, hl1, hNd]
          · have hf1 := (show firstC s p (0 + 1) = firstC s p 0 from firstC_no (fun e => by have := e.1; simp at h3; omega))
            simp (disch := omega) [go_sem, hkp, ints_len, wl_len, leastL_len, hn1]
            refine round_of 1 (by omega) (by omega) (Le.mk [(0, some 0), (16, some 16), (32, some 32), (288, some 288), (656, some 656), (1008, some 2992)] [0, 16, 32, 288, 656, 2992] ⟨rfl, rfl, rfl⟩ ?_ ?_ ?_) <;> simp [go_sem, cl1F, clS, sitV, plnV, hp1, hp2, hp3, hp4, hp5, hp6, hip, hpw', allC, restC, hf1, hl1, hNd]
            all_goals rfl
        · have h2' : p.splits.length ≤ 0 := by first | omega | simp [h2]
          have hz := wishP_none (s := s) (p := p) 0 (by omega) (hN 0 hkp).1 h2'
          have hws := wl_same hkp hz
          simp (disch := omega) [go_sem, hkp, ints_len, wl_len, leastL_len, nth_ints, hn0]
          refine round_of 1 (by omega) (by omega) (Le.mk [(0, some 0), (16, some 16), (32, some 32), (288, some 288), (656, some 656), (1008, some 2736)] [0, 16, 32, 288, 656, 2736] ⟨rfl, rfl, rfl⟩ ?_ ?_ ?_) <;> simp [go_sem, cl1F, clS, sitV, plnV, hp1, hp2, hp3, hp4, hp5, hp6, hip, hws, hpw, hz, allC, restC, firstC, hl1, hNd]
      · first | omega | (simp [h] at h8)
    | succ k =>
      simp (disch := omega) [go_sem, cl1F, clS, sitV, plnV, ints_len]
      refine br_of (fun h => ?_) (fun h => ?_) <;> simp at h
      · have hkp : k + 1 < s.phases.length := by omega
        have hi2 : nth (s.phases.map phaV) (k + 1) = phaV s.phases[k + 1] := nth_map hkp
        have eM : s.phases[k + 1].min = minAt s (k + 1) := by simp [minAt, hkp]
        have hNd : needsN s (k + 1) = minAt s (k + 1) + clearN s (k + 1) ((k + 1 + 1) % s.phases.length) := rfl
        have hls : ints (leastL s (k + 1 + 1)) = ints (leastL s (k + 1)) ++ [.int .i64 (needsN s (k + 1))] := by rw [leastL_succ, ints_app]; rfl
        have hpl := ints_pure (leastL s (k + 1))
        have hNk := hN (k + 1) hkp
        have qkk := qk (k + 1) hkp
        have hwb := wishP_bound (p := p) (k + 1) hL hNk.1
        have hab := allC_bound (p := p) hL hN (k + 1) (by omega)
        have hrb2 := restC_bound hN hrb (k := k + 1) (by omega)
        have hfb := firstC_bound s p (k + 1)
        generalize clearN s (k + 1) ((k + 1 + 1) % s.phases.length) = d at *
        rw [hNd] at hNk
        simp (disch := omega) [go_sem, hkp, hi2, phaV, eM]
        refine ⟨by omega, ?_⟩
        refine callK_data qkk [] (by simp [go_sem, hp1, hp2, hp3, hp4, hp5, hp6]) (.inl rfl) (by simp [go_sem]) (fun _ => ?_) (by simp [tabG, go_sem])
        simp (disch := omega) [go_sem, hkp]
        refine ⟨.inl (by kernel_rfl), ?_⟩
        have hn0 : nth (ints (wl s p (k + 1))) (k + 1) = .int .i64 0 := by rw [nth_ints (by rw [wl_len]; exact hkp), wl_at hkp]; simp
        refine br_of (fun h2 => ?_) (fun h2 => ?_) <;> simp [ints_len] at h2
        · have h2' : k + 1 < p.splits.length := by first | omega | exact List.length_pos_iff.2 h2
          simp (disch := omega) [go_sem, hkp, ints_len, wl_len, nth_ints, h2', hn0]
          refine ⟨by omega, by omega, .inl (by kernel_rfl), ?_⟩
          have hwe : (if minAt s (k + 1) + d < (if s.high < if (0 : Int) < p.splits[k + 1] then p.splits[k + 1] else (0 : Int) then s.high else if (0 : Int) < p.splits[k + 1] then p.splits[k + 1] else (0 : Int)) then (if s.high < if (0 : Int) < p.splits[k + 1] then p.splits[k + 1] else (0 : Int) then s.high else if (0 : Int) < p.splits[k + 1] then p.splits[k + 1] else (0 : Int)) - (minAt s (k + 1) + d) else 0) = wishP s p (k + 1) := by
            unfold wishP
            rw [hNd, show p.splits.getD (k + 1) 0 = p.splits[k + 1] by simp [h2']]
            generalize (if s.high < if (0 : Int) < p.splits[k + 1] then p.splits[k + 1] else (0 : Int) then s.high else if (0 : Int) < p.splits[k + 1] then p.splits[k + 1] else (0 : Int)) = y
            repeat' split
            all_goals omega
          simp only [hwe]
          rw [ints_set, wl_set hkp]
          have hpw' := ints_pure (wl s p ((k + 1) + 1))
          have hn1 : nth (ints (wl s p ((k + 1) + 1))) (k + 1) = .int .i64 (wishP s p (k + 1)) := by rw [nth_ints (by rw [wl_len]; exact hkp), wl_at hkp]; simp
          refine ⟨by omega, ?_⟩
          simp (disch := omega) [go_sem, hkp, ints_len, wl_len, leastL_len, hn1]
          refine br_of (fun h3 => ?_) (fun h3 => ?_)
          · have hf1 := (show firstC s p ((k + 1) + 1) = ((k + 1 : Nat) : Int) from firstC_yes (by simpa using h3))
            simp (disch := omega) [go_sem, hkp, ints_len, wl_len, leastL_len, hn1]
            refine ⟨by omega, by omega, ?_⟩
            refine round_of (k + 1 + 1) (by omega) (by omega) (Le.mk [(0, some 0), (16, some 16), (32, some 32), (288, some 288), (656, some 656), (1008, some 1008)] [0, 16, 32, 288, 656, 1008] ⟨rfl, rfl, rfl⟩ ?_ ?_ ?_) <;> simp [go_sem, cl1F, clS, sitV, plnV, hp1, hp2, hp3, hp4, hp5, hp6, hip, hpw', allC, restC, hf1, hNd, hls, hpl]
          · have hf1 := (show firstC s p ((k + 1) + 1) = firstC s p (k + 1) from firstC_no (fun e => by simp [e.1, e.2] at h3))
            simp (disch := omega) [go_sem, hkp, ints_len, wl_len, leastL_len, hn1]
            refine ⟨by omega, by omega, ?_⟩
            refine round_of (k + 1 + 1) (by omega) (by omega) (Le.mk [(0, some 0), (16, some 16), (32, some 32), (288, some 288), (656, some 656), (1008, some 1008)] [0, 16, 32, 288, 656, 1008] ⟨rfl, rfl, rfl⟩ ?_ ?_ ?_) <;> simp [go_sem, cl1F, clS, sitV, plnV, hp1, hp2, hp3, hp4, hp5, hp6, hip, hpw', allC, restC, hf1, hNd, hls, hpl]
        · have h2' : p.splits.length ≤ k + 1 := by first | omega | simp [h2]
          have hz := wishP_none (s := s) (p := p) (k + 1) (by omega) (hN (k + 1) hkp).1 h2'
          have hws := wl_same hkp hz
          simp (disch := omega) [go_sem, hkp, ints_len, wl_len, leastL_len, nth_ints, hn0]
          refine ⟨by omega, by omega, ?_⟩
          refine round_of (k + 1 + 1) (by omega) (by omega) (Le.mk [(0, some 0), (16, some 16), (32, some 32), (288, some 288), (656, some 656), (1008, some 1008)] [0, 16, 32, 288, 656, 1008] ⟨rfl, rfl, rfl⟩ ?_ ?_ ?_) <;> simp [go_sem, cl1F, clS, sitV, plnV, hp1, hp2, hp3, hp4, hp5, hp6, hip, hws, hpw, hz, allC, restC, firstC, hNd, hls, hpl]
      · have hkl : k + 1 = s.phases.length := by omega
        simp (disch := omega) [go_sem, ints_len, leastL_len]
        have hs0 := sl2_zero s p c
        rw [hkl]
        refine awz_loop mixed (cl2F s p c f) (fun m => m ≤ s.phases.length) (fun m => s.phases.length - m) 0 (by omega) ?_ ?_
        · refine (Le.mk [(0, some 0), (16, some 16), (32, some 32), (288, some 288), (656, some 656), (1008, some 1008)] [0, 16, 32, 288, 656, 1008] ⟨rfl, rfl, rfl⟩ ?_ ?_ ?_) <;> simp [go_sem, cl2F, clS, sitV, plnV, hp1, hp2, hp3, hp4, hp5, hp6, hip, hs0, hpw, leftC, ints_pure]
          all_goals omega
        · intro m hm
          have hpw2 := ints_pure (wl s p s.phases.length)
          have hps := ints_pure (sl2 s p c m)
          have hps1 := ints_pure (sl2 s p c (m + 1))
          simp (disch := omega) [go_sem, cl2F, clS, sitV, plnV, ints_len, sl2_len]
          refine br_of (fun g => ?_) (fun g => ?_) <;> simp at g
          · have g' : m < s.phases.length := by omega
            have hnw : nth (ints (wl s p s.phases.length)) m = .int .i64 (wishP s p m) := by rw [nth_ints (by rw [wl_len]; exact g'), wl_at g']; simp [g']
            have hns : nth (ints (sl2 s p c m)) m = .int .i64 (needsN s m) := by rw [nth_ints (by rw [sl2_len]; exact g'), sl2_at g']; simp
            have hset : (ints (sl2 s p c m)).set m (.int .i64 (needsN s m + shareC s p c m)) = ints (sl2 s p c (m + 1)) := by rw [ints_set, sl2_set g']
            have hsb := shareC_bound (p := p) hL hN hrb g'
            have hlb := leftC_bound (p := p) hL hN hrb m (by omega)
            have hnb := hN m g'
            have hab := allC_bound (p := p) hL hN s.phases.length (Nat.le_refl _)
            have hlf : leftC s p c (m + 1) = leftC s p c m - shareC s p c m := rfl
            simp (disch := omega) [go_sem, g', ints_len, wl_len, sl2_len, hnw, hns]
            refine br_of (fun g2 => ?_) (fun g2 => ?_) <;> simp at g2
            · have htd := hsb.2.2.2 g2
              simp (disch := omega) [go_sem, g', ints_len, wl_len, sl2_len, hnw, hns]
              refine ⟨by omega, ?_⟩
              refine round_of (m + 1) (by omega) (by omega) (Le.mk [(0, some 0), (16, some 16), (32, some 32), (288, some 288), (656, some 656), (1008, some 1008)] [0, 16, 32, 288, 656, 1008] ⟨rfl, rfl, rfl⟩ ?_ ?_ ?_) <;> simp [go_sem, cl2F, clS, sitV, plnV, hp1, hp2, hp3, hp4, hp5, hp6, hip, hpw2, hps1, htd, hset, hlf]
            · have hz : shareC s p c m = 0 := by unfold shareC; rw [if_neg (by omega)]
              have hsm := sl2_same g' hz
              simp (disch := omega) [go_sem, g', ints_len, wl_len, sl2_len, hnw, hns]
              refine round_of (m + 1) (by omega) (by omega) (Le.mk [(0, some 0), (16, some 16), (32, some 32), (288, some 288), (656, some 656), (1008, some 1008)] [0, 16, 32, 288, 656, 1008] ⟨rfl, rfl, rfl⟩ ?_ ?_ ?_) <;> simp [go_sem, cl2F, clS, sitV, plnV, hp1, hp2, hp3, hp4, hp5, hp6, hip, hpw2, hps, hsm, hz, hlf]
          · have hml : m = s.phases.length := by omega
            subst hml
            have hfb := firstC_bound s p s.phases.length
            have hlb := leftC_bound (p := p) hL hN hrb s.phases.length (Nat.le_refl _)
            obtain ⟨q, hq, hqe, hqt⟩ : ∃ q : Nat, q < s.phases.length ∧ (if 0 < firstC s p s.phases.length then firstC s p s.phases.length else 0) = (q : Int) ∧ (firstC s p s.phases.length).toNat = q := ⟨(firstC s p s.phases.length).toNat, by omega, by split <;> omega, rfl⟩
            have hsb := (shareC_bound (p := p) hL hN hrb hq).2
            have hnb := hN q hq
            have hns : nth (ints (sl2 s p c s.phases.length)) q = .int .i64 (needsN s q + shareC s p c q) := by rw [nth_ints (by rw [sl2_len]; exact hq), sl2_at hq]; simp [hq]
            have hcl : (ints (sl2 s p c s.phases.length)).set q (.int .i64 (needsN s q + shareC s p c q + leftC s p c s.phases.length)) = ints (clampL s p c) := by
              unfold clampL
              rw [hqt, ints_set, show (sl2 s p c s.phases.length).getD q 0 = needsN s q + shareC s p c q by
                rw [List.getD_eq_getElem?_getD, List.getElem?_eq_getElem (by rw [sl2_len]; exact hq), sl2_at hq]; simp [hq]]
            have hcp := ints_pure (clampL s p c)
            simp (disch := omega) [go_sem, ints_len, sl2_len, hqe, hns, hcl, hq]
            simp [clampL, sl2_len]
end Go.Proofs.YtdeionjkcmpnpaaDoor
