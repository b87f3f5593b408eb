
/- Loads that a plan would bring. -/
import Derived.Test.YtdeionjkcmpnpaaDoorNetA
import Derived.Test.YtdeionjkcmpnpaaDoorFit17
set_option linter.unusedSimpArgs false
set_option linter.unusedVariables false
namespace Go.Proofs.YtdeionjkcmpnpaaDoor
open Go.AM Go.RowKit
set_option maxRecDepth 100000

def shareN (p q : Pln) (l : List Int) (k : Nat) : Int := l.getD k 0 * p.splits.getD k 0 / q.splits.getD k 0
def mostK (p q : Pln) (l : List Int) : Nat → Int
  | 0 => 0
  | k + 1 => maxI (mostK p q l k) (shareN p q l k)
/-- What holds of two plans of one site, and of loads. -/
structure Most2 (p q : Pln) (l : List Int) : Prop where
  len : p.splits.length = q.splits.length
  few : q.splits.length ≤ 1024
  now : ∀ i, ∀ h : i < p.splits.length, 0 ≤ p.splits[i] ∧ p.splits[i] ≤ 1048576
  to : ∀ i, ∀ h : i < q.splits.length, 1 ≤ q.splits[i] ∧ q.splits[i] ≤ 1048576
  loads : ∀ i, ∀ h : i < l.length, 0 ≤ l[i] ∧ l[i] ≤ 65536
theorem Most2.share {p q : Pln} {l : List Int} (h : Most2 p q l) (k : Nat) (h1 : k < q.splits.length) (h2 : k < l.length) :
    ∃ h3 : k < p.splits.length, (0 ≤ l[k] * p.splits[k] ∧ l[k] * p.splits[k] ≤ 68719476736) ∧ (l[k] * p.splits[k]).tdiv q.splits[k] = shareN p q l k ∧ 0 ≤ shareN p q l k ∧ shareN p q l k ≤ 68719476736 := by
  have h3 : k < p.splits.length := by rw [h.len]; exact h1
  have a1 := h.now k h3
  have a2 := h.to k h1
  have a3 := h.loads k h2
  have b0 : 0 ≤ l[k] * p.splits[k] := Int.mul_nonneg a3.1 a1.1
  have b1 : l[k] * p.splits[k] ≤ 65536 * 1048576 := Int.mul_le_mul a3.2 a1.2 a1.1 (by omega)
  have e : shareN p q l k = l[k] * p.splits[k] / q.splits[k] := by unfold shareN; simp [h1, h2, h3]
  refine ⟨h3, ⟨b0, by omega⟩, by rw [e, Int.tdiv_eq_ediv_of_nonneg b0], ?_, ?_⟩
  · rw [e]; exact Int.ediv_nonneg b0 (by omega)
  · rw [e]; have := Int.ediv_le_self q.splits[k] b0; omega

set_option maxHeartbeats 1000000 in
theorem worst26_spec (p q : Pln) (l : List Int) (h : Most2 p q l) : FnD Tryd.prog 56 [plnV p, plnV q, .sl 1 (ints l)] (.int .i64 (mostK p q l (min q.splits.length l.length))) := by
  have hip := ints_pure p.splits
  have hiq := ints_pure q.splits
  have hil := ints_pure l
  unfold plnV
  refine fnD_of mixed Tryd.func56 rfl rfl (by simp [Tryd.ntmps56]) fun hwf E => ?_
  simp (disch := omega) [go_sem, ints_len] at hwf
  simp (disch := omega) [Tryd.ntmps56, go_sem, ints_len]
  refine awz_loop mixed (fun k : Nat => ⟨[(13, .int .i64 k), (12, .int .i64 q.splits.length), (11, .sl 1 (ints q.splits)), (7, .int .i64 (mostK p q l (min k l.length))), (4, .ptr 16 1 0 0), (3, .ptr 0 1 0 0), (2, .sl 1 (ints l)), (6, .int .i64 0)], [(16, ⟨.box, 36, 3, [plnV q]⟩), (0, ⟨.box, 36, 3, [plnV p]⟩)], 128, [], 38, 0, []⟩)
    (fun k => k ≤ q.splits.length ∧ 0 ≤ mostK p q l (min k l.length) ∧ mostK p q l (min k l.length) ≤ 68719476736) (fun k => q.splits.length - k) 0 ⟨by omega, by simp [mostK], by simp [mostK]⟩ ?_ ?_
  · refine Le.mk [(0, some 0), (16, some 16)] [0, 16] ⟨rfl, rfl, rfl⟩ ?_ ?_ ?_ <;> simp [go_sem, plnV, hip, hiq, hil, mostK]
  · rintro k ⟨hk, hb⟩
    simp (disch := omega) [go_sem, plnV, ints_len]
    refine br_of (fun h1 => ?_) (fun h1 => ?_) <;> simp at h1
    · simp (disch := omega) [go_sem, ints_len, nth_ints, h1]
      refine br_of (fun h2 => ?_) (fun h2 => ?_) <;> simp at h2
      · obtain ⟨h3, hm, ht, hs⟩ := h.share k h1 h2
        have em : min k l.length = k := by omega
        have em1 : min (k + 1) l.length = k + 1 := by omega
        rw [em] at hb ⊢
        have a2 := h.to k h1
        have hss : mostK p q l (k + 1) = maxI (mostK p q l k) (shareN p q l k) := rfl
        have hbd : 0 ≤ maxI (mostK p q l k) (shareN p q l k) ∧ maxI (mostK p q l k) (shareN p q l k) ≤ 68719476736 := by unfold maxI; split <;> omega
        have hw : IntKind.i64.wrap ((l[k] * p.splits[k]).tdiv q.splits[k]) = shareN p q l k := by rw [ht]; exact i64_wrap (by omega) (by omega)
        simp (disch := omega) [go_sem, ints_len, nth_ints, h1, h2, h3]
        refine ⟨by omega, .inl (by kernel_rfl), ?_⟩
        refine round_of (k + 1) ⟨by omega, by rw [em1, hss]; exact hbd⟩ (by omega) (Le.mk [(0, some 0), (16, some 16)] [0, 16] ⟨rfl, rfl, rfl⟩ ?_ ?_ ?_) <;> simp [go_sem, plnV, hip, hiq, hil, em1, hss, hw, ht, maxI]
      · have em : min k l.length = l.length := by omega
        have em1 : min (k + 1) l.length = l.length := by omega
        rw [em] at hb ⊢
        simp (disch := omega) [go_sem]
        refine round_of (k + 1) ⟨by omega, by rw [em1]; exact hb⟩ (by omega) (Le.mk [(0, some 0), (16, some 16)] [0, 16] ⟨rfl, rfl, rfl⟩ ?_ ?_ ?_) <;> simp [go_sem, plnV, hip, hiq, hil, em1]
    · have hkl : k = q.splits.length := by omega
      subst hkl
      simp (disch := omega) [go_sem]
set_option maxHeartbeats 1000000 in
theorem most26_spec (p q : Pln) (l : List Int) (h : Most2 p q l) : FnD Tryd.prog 119 [plnV p, plnV q, .sl 1 (ints l)] (.int .i64 (mostK p q l (min q.splits.length l.length))) := by
  have hip := ints_pure p.splits
  have hiq := ints_pure q.splits
  have hil := ints_pure l
  unfold plnV
  refine fnD_of mixed Tryd.func119 rfl rfl (by simp [Tryd.ntmps119]) fun hwf E => ?_
  simp (disch := omega) [go_sem, ints_len] at hwf
  simp (disch := omega) [Tryd.ntmps119, go_sem, ints_len]
  refine awz_loop mixed (fun k : Nat => ⟨[(8, .int .i64 k), (7, .int .i64 (mostK p q l k)), (4, .ptr 16 1 0 0), (3, .ptr 0 1 0 0), (2, .sl 1 (ints l)), (6, .int .i64 0)], [(16, ⟨.box, 36, 3, [plnV q]⟩), (0, ⟨.box, 36, 3, [plnV p]⟩)], 80, [], 44, 0, []⟩)
    (fun k => (k ≤ q.splits.length ∧ k ≤ l.length) ∧ 0 ≤ mostK p q l k ∧ mostK p q l k ≤ 68719476736) (fun k => q.splits.length - k) 0 ⟨by omega, by simp [mostK], by simp [mostK]⟩ ?_ ?_
  · refine Le.mk [(0, some 0), (16, some 16)] [0, 16] ⟨rfl, rfl, rfl⟩ ?_ ?_ ?_ <;> simp [go_sem, plnV, hip, hiq, hil, mostK]
  · rintro k ⟨hk, hb⟩
    simp (disch := omega) [go_sem, plnV, ints_len]
    refine br_of (fun h0 => ?_) (fun h0 => ?_) <;> simp at h0
    · obtain ⟨h1, h2⟩ := h0
      obtain ⟨h3, hm, ht, hs⟩ := h.share k h1 h2
      have a2 := h.to k h1
      have hss : mostK p q l (k + 1) = maxI (mostK p q l k) (shareN p q l k) := rfl
      have hbd : 0 ≤ maxI (mostK p q l k) (shareN p q l k) ∧ maxI (mostK p q l k) (shareN p q l k) ≤ 68719476736 := by unfold maxI; split <;> omega
      have hw : IntKind.i64.wrap ((l[k] * p.splits[k]).tdiv q.splits[k]) = shareN p q l k := by rw [ht]; exact i64_wrap (by omega) (by omega)
      simp (disch := omega) [go_sem, ints_len, nth_ints, h1, h2, h3]
      refine ⟨by omega, .inl (by kernel_rfl), ?_⟩
      refine br_of (fun h5 => ?_) (fun h5 => ?_) <;> simp [hw, ht] at h5
      · simp (disch := omega) [go_sem]
        refine round_of (k + 1) ⟨by omega, by rw [hss]; exact hbd⟩ (by omega) (Le.mk [(0, some 0), (16, some 16)] [0, 16] ⟨rfl, rfl, rfl⟩ ?_ ?_ ?_) <;> simp [go_sem, plnV, hip, hiq, hil, hss, hw, ht, maxI, h5]
      · have h6 : ¬ mostK p q l k < shareN p q l k := by omega
        simp (disch := omega) [go_sem]
        refine round_of (k + 1) ⟨by omega, by rw [hss]; exact hbd⟩ (by omega) (Le.mk [(0, some 0), (16, some 16)] [0, 16] ⟨rfl, rfl, rfl⟩ ?_ ?_ ?_) <;> simp [go_sem, plnV, hip, hiq, hil, hss, hw, ht, maxI, h6]
    · have hkl : k = min q.splits.length l.length := by omega
      subst hkl
      simp (disch := omega) [go_sem]

/-! the errors of loads -/
def fixI (x : Int) : Bool := decide (0 ≤ x) && decide (x ≤ 65536)
theorem fixed_spec (x : Int) : FnD Tryd.prog 118 [.int .i64 x] (.bool (fixI x)) := by
  refine fnD_of mixed Tryd.func118 rfl rfl (by simp [Tryd.ntmps118]) fun hwf E => ?_
  simp (disch := omega) [Tryd.ntmps118, go_sem, fixI]
theorem loaded1_spec (x : Int) : FnD Tryd.prog 117 [.int .i64 x] (.bool (!fixI x)) := by
  refine fnD_of mixed Tryd.func117 rfl rfl (by simp [Tryd.ntmps117]) fun hwf E => ?_
  simp (disch := omega) [Tryd.ntmps117, go_sem, fixI]
  rw [Bool.eq_iff_iff]
  simp
  try omega
theorem indexFunc_i64 (l : List Int) (g : FuncId) (fst caps : List V) (q : Int → Bool) (hpf : pures fst) (hpc : pures caps) (hq : ∀ x ∈ l, FnD Tryd.prog g (fst ++ [.int .i64 x] ++ caps) (.bool (q x))) :
    FnD Tryd.prog 158 [.sl 1 (ints l), .func (.func g) fst caps] (.int .i64 (findQ l q)) := by
  have yes : ∀ k (h : k < l.length), (∀ j (hj : j < l.length), j < k → q l[j] = false) → q l[k] = true → (findQ l q) = k := by
    intro k h hno hk
    have : l.findIdx? q = some k := by
      rw [List.findIdx?_eq_some_iff_getElem]
      exact ⟨h, hk, fun j hj => by simp [hno j (by omega) hj]⟩
    simp [findQ, this]
  have no : (∀ j (hj : j < l.length), q l[j] = false) → (findQ l q) = -1 := by
    intro hno
    have : l.findIdx? q = none := by
      rw [List.findIdx?_eq_none_iff]
      intro x hx
      obtain ⟨j, hj, rfl⟩ := List.getElem_of_mem hx
      exact hno j hj
    simp [findQ, this]
  generalize (findQ l q) = res at *
  refine fnD_of mixed Tryd.func158 rfl rfl (by simp [Tryd.ntmps158]) fun hwf E => ?_
  simp (disch := omega) [go_sem, ints_len] at hwf
  simp (disch := omega) [Tryd.ntmps158, go_sem, ints_len]
  refine awz_loop mixed (fun k : Nat => ⟨[(0, .sl 1 (ints l)), (1, .func (.func g) fst caps), (7, .int .i64 l.length), (8, .int .i64 k), (4, .int .i64 0)], [], 1024, [], 19, 0, []⟩)
    (fun k => k ≤ l.length ∧ ∀ j (hj : j < l.length), j < k → q l[j] = false) (fun k => l.length - k) 0 (by simp) ?_ ?_
  · refine Le.mk [] [] ⟨rfl, rfl, rfl⟩ ?_ ?_ ?_ <;> simp [go_sem, vsLe_self, hpf, hpc, ints_pure]
  · rintro k ⟨hk, hno⟩
    simp (disch := omega) [go_sem]
    refine br_of (fun h => ?_) (fun h => ?_) <;> simp at h
    · have hm : l[k] ∈ l := List.getElem_mem h
      simp (disch := omega) [go_sem, h, ints_len, nth_ints]
      refine callK_data (hq _ hm) [] ?_ (.inl rfl) (by simp [go_sem]) fun hw => ?_
      · simp (disch := omega) [go_sem]
        have ha := argsLe_self (hp := AM.look []) (B := fun i => i ∈ ([] : List Nat)) (n := 8) (xs := fst ++ [.int .i64 l[k]] ++ caps) (by simp [go_sem, hpf, hpc])
        simpa [AM.look] using ha
      · simp (disch := omega) [go_sem]
        refine br_of (fun h2 => ?_) (fun h2 => ?_)
        · simp (disch := omega) [go_sem]
          exact (yes k h hno h2).symm
        · simp (disch := omega) [go_sem]
          refine round_of (k + 1) ⟨h, fun j hj hk' => ?_⟩ (by omega) (Le.mk [] [] ⟨rfl, rfl, rfl⟩ ?_ ?_ ?_)
          · by_cases e : j = k
            · subst e; exact h2
            · exact hno j hj (by omega)
          all_goals simp (disch := omega) [go_sem, vsLe_self, hpf, hpc, ints_pure]
    · simp (disch := omega) [go_sem]
      exact (no fun j hj => hno j hj (by omega)).symm
theorem containsFunc_i64 (l : List Int) (g : FuncId) (fst caps : List V) (q : Int → Bool) (hpf : pures fst) (hpc : pures caps) (hq : ∀ x ∈ l, FnD Tryd.prog g (fst ++ [.int .i64 x] ++ caps) (.bool (q x))) :
    FnD Tryd.prog 116 [.sl 1 (ints l), .func (.func g) fst caps] (.bool (l.any q)) := by
  refine fnD_of mixed Tryd.func116 rfl rfl (by simp [Tryd.ntmps116]) fun hwf E => ?_
  simp (disch := omega) [Tryd.ntmps116, go_sem] at hwf ⊢
  refine callK_data (indexFunc_i64 l g fst caps q hpf hpc hq) [] ?_ (.inl rfl) (by simp [go_sem]) fun hw => ?_
  · simp [go_sem, hpf, hpc, ints_pure]
  · simp (disch := omega) [go_sem]
    simpa using find_any l q


def loadedN (l : List Int) : Int := if 1024 < l.length then 4 else if l.any (fun x => !fixI x) then 2 else 0
theorem loadedN_many {l : List Int} (h : 1024 < l.length) : loadedN l = 4 := by unfold loadedN; rw [if_pos h]
theorem loadedN_of {l : List Int} (h : ¬ 1024 < l.length) : loadedN l = if l.any (fun x => !fixI x) then 2 else 0 := by unfold loadedN; rw [if_neg h]
theorem loadedN_ok {l : List Int} (h : ¬ 1024 < l.length) (h2 : ∀ i, ∀ h : i < l.length, fixI l[i] = true) : loadedN l = 0 := by
  rw [loadedN_of h, if_neg]
  rw [Bool.not_eq_true, List.any_eq_false]
  intro x hx
  obtain ⟨i, hi, rfl⟩ := List.getElem_of_mem hx
  simp [h2 i hi]
theorem loadedN_bad {l : List Int} (h : ¬ 1024 < l.length) (k : Nat) (hk : k < l.length) (h2 : fixI l[k] = false) : loadedN l = 2 := by
  rw [loadedN_of h, if_pos]
  exact List.any_eq_true.2 ⟨_, List.getElem_mem hk, by simp [h2]⟩
theorem loadedN_zero {l : List Int} (h : loadedN l = 0) : l.length ≤ 1024 ∧ ∀ i, ∀ h : i < l.length, 0 ≤ l[i] ∧ l[i] ≤ 65536 := by
  by_cases h1 : 1024 < l.length
  · rw [loadedN_many h1] at h; cases h
  · refine ⟨by omega, fun i hi => ?_⟩
    by_cases h2 : fixI l[i] = true
    · simpa [fixI] using h2
    · rw [loadedN_bad h1 i hi (by simpa using h2)] at h; cases h
theorem loaded_spec (l : List Int) : FnD Tryd.prog 55 [.sl 1 (ints l)] (.int .i64 (loadedN l)) := by
  refine fnD_of mixed Tryd.func55 rfl rfl (by simp [Tryd.ntmps55]) fun hwf E => ?_
  simp (disch := omega) [go_sem, ints_len] at hwf
  simp (disch := omega) [Tryd.ntmps55, go_sem, ints_len]
  refine br_of (fun h1 => ?_) (fun h1 => ?_) <;> simp at h1
  · rw [loadedN_many (by omega)]
    simp (disch := omega) [go_sem]
  · have e1 : ¬ 1024 < l.length := by omega
    have hc := containsFunc_i64 l 117 [] [] (fun x => !fixI x) (by simp [go_sem]) (by simp [go_sem]) (fun x _ => by simpa using loaded1_spec x)
    rw [loadedN_of e1]
    generalize (l.any fun x => !fixI x) = b at *
    simp (disch := omega) [go_sem]
    refine callK_data hc [] (by simp [go_sem, ints_pure]) (.inl rfl) (by simp [go_sem]) (fun _ => ?_)
    simp (disch := omega) [go_sem]
    refine br_of (fun h2 => ?_) (fun h2 => ?_)
    · rw [if_pos h2]
      simp (disch := omega) [go_sem]
    · rw [if_neg (by rw [h2]; simp)]
      simp (disch := omega) [go_sem]
theorem rloaded_spec (l : List Int) : FnD Tryd.prog 59 [.sl 1 (ints l)] (.int .i64 (loadedN l)) := by
  have hil := ints_pure l
  refine fnD_of mixed Tryd.func59 rfl rfl (by simp [Tryd.ntmps59]) fun hwf E => ?_
  simp (disch := omega) [go_sem, ints_len] at hwf
  simp (disch := omega) [Tryd.ntmps59, go_sem, ints_len]
  refine br_of (fun h1 => ?_) (fun h1 => ?_) <;> simp at h1
  · rw [loadedN_many (by omega)]
    simp (disch := omega) [go_sem]
  · have e1 : ¬ 1024 < l.length := by omega
    simp (disch := omega) [go_sem]
    refine awz_loop mixed (fun k : Nat => ⟨[(3, .int .i64 k), (0, .sl 1 (ints l)), (2, .int .i64 0)], [], 16, [], 19, 0, []⟩)
      (fun k => k ≤ l.length ∧ ∀ i, ∀ h : i < l.length, i < k → fixI l[i] = true) (fun k => l.length - k) 0 ⟨by omega, fun i _ h => by omega⟩ ?_ ?_
    · refine Le.mk [] [] ⟨rfl, rfl, rfl⟩ ?_ ?_ ?_ <;> simp [go_sem, hil]
    · rintro k ⟨hk, hno⟩
      simp (disch := omega) [go_sem, ints_len]
      refine br_of (fun h => ?_) (fun h => ?_) <;> simp at h
      · simp (disch := omega) [go_sem, ints_len, nth_ints, h]
        refine callK_bool (fixed_spec l[k]) [] (by simp [go_sem]) (fun h2 => ?_) (fun h2 => ?_)
        · simp (disch := omega) [go_sem]
          refine round_of (k + 1) ⟨by omega, fun i hi hik => ?_⟩ (by omega) (Le.mk [] [] ⟨rfl, rfl, rfl⟩ ?_ ?_ ?_)
          · by_cases e : i = k
            · subst e; exact h2
            · exact hno i hi (by omega)
          all_goals simp [go_sem, hil]
        · simp (disch := omega) [go_sem]
          exact (loadedN_bad e1 k h h2).symm
      · have hkl : k = l.length := by omega
        subst hkl
        simp (disch := omega) [go_sem]
        exact (loadedN_ok e1 fun i hi => hno i hi hi).symm

/-! two plans of one site -/
theorem most2_of {s : Sit} {p q : Pln} {l : List Int} (hOk : SiteOk s) (hp : Fits s p) (hq : Fits s q) (hl : loadedN l = 0) : Most2 p q l := by
  have hN := hOk.needs
  have hL := hOk.low
  have hP : PhasedOk s := hOk.phased
  obtain ⟨a1, a2, a3, a4, a5⟩ := (fits_iff hN).1 hp
  obtain ⟨b1, b2, b3, b4, b5⟩ := (fits_iff hN).1 hq
  have hz := loadedN_zero hl
  have h8 : s.phases.length ≤ 8 := (groups_site.1 hOk).2.1.1.2
  refine ⟨by omega, by omega, fun i hi => ?_, fun i hi => ?_, hz.2⟩
  · have := a4 i hi
    have := hN i (by omega)
    omega
  · have := b4 i hi
    have h1 := hP.1 i (by omega) (by omega)
    have h2 : 1 ≤ minAt s i := by
      have := h1.2.2.1.1.1
      simp only [minAt]
      rw [List.getElem?_eq_getElem (by omega : i < s.phases.length)]
      simpa using this
    have h3 : needsN s i = minAt s i + clearN s i ((i + 1) % s.phases.length) := rfl
    have h4 : 0 ≤ clearN s i ((i + 1) % s.phases.length) := (clear_bound s hOk.shaped hOk.apart i _).1
    omega

noncomputable def worstE (s : Sit) (p q : Pln) (l : List Int) : Int := if SiteOk s then (if Fits s p ∧ Fits s q then loadedN l else 170) else 50
noncomputable def worstV (s : Sit) (p q : Pln) (l : List Int) : Int := if SiteOk s ∧ Fits s p ∧ Fits s q ∧ loadedN l = 0 then mostK p q l (min q.splits.length l.length) else 0

theorem worstE_bad {s : Sit} {p q : Pln} {l : List Int} (h : ¬ SiteOk s) : worstE s p q l = 50 ∧ worstV s p q l = 0 := by
  unfold worstE worstV; rw [if_neg h, if_neg (fun e => h e.1)]; exact ⟨rfl, rfl⟩
theorem worstE_plan {s : Sit} {p q : Pln} {l : List Int} (h : SiteOk s) (h2 : ¬ (Fits s p ∧ Fits s q)) : worstE s p q l = 170 ∧ worstV s p q l = 0 := by
  unfold worstE worstV; rw [if_pos h, if_neg h2, if_neg (fun e => h2 ⟨e.2.1, e.2.2.1⟩)]; exact ⟨rfl, rfl⟩
theorem worstE_fit {s : Sit} {p q : Pln} {l : List Int} (h : SiteOk s) (h2 : Fits s p ∧ Fits s q) : worstE s p q l = loadedN l := by
  unfold worstE; rw [if_pos h, if_pos h2]
theorem worstV_no {s : Sit} {p q : Pln} {l : List Int} (h : loadedN l ≠ 0) : worstV s p q l = 0 := by
  unfold worstV; rw [if_neg (fun e => h e.2.2.2)]
theorem worstV_ok {s : Sit} {p q : Pln} {l : List Int} (h : SiteOk s) (h2 : Fits s p ∧ Fits s q) (h3 : loadedN l = 0) : worstV s p q l = mostK p q l (min q.splits.length l.length) := by
  unfold worstV; rw [if_pos ⟨h, h2.1, h2.2, h3⟩]

/-! the law -/
theorem long26_spec (s : Sit) (p q : Pln) (l : List Int) : FnD Tryd.prog 10 [sitV s, plnV p, plnV q, .sl 1 (ints l)] (.bool (greatS s || decide (100 < (p.splits.length : Int)) || decide (100 < (q.splits.length : Int)) || decide (1100 < (l.length : Int)))) := by
  have hpu := (⟨grps_pure s.groups, phas_pure s.phases, eyes_pure s.eyes, plns_pure s.plans, sets_pure s.apart, rows_pure s.between⟩ : _ ∧ _ ∧ _ ∧ _ ∧ _ ∧ _)
  obtain ⟨hp1, hp2, hp3, hp4, hp5, hp6⟩ := hpu
  have hg := greatS_spec s
  have hsv : sitV s = .agg [.int .i64 s.id, .sl 3 (s.groups.map grpV), .sl 1 (sets s.apart), .sl 1 (rows s.between), .sl 5 (s.phases.map phaV), .sl 4 (s.eyes.map eyeV), .int .i64 s.watch, .int .i64 s.feed, .int .i64 s.heal, .int .i64 s.low, .int .i64 s.high, .sl 3 (s.plans.map plnV)] := rfl
  have hpv : ∀ p, plnV p = .agg [.int .i64 p.cycle, .int .i64 p.offset, .sl 1 (ints p.splits)] := fun _ => rfl
  rw [hsv] at hg
  rw [hsv, hpv p, hpv q]
  refine fnD_of mixed Tryd.func10 rfl rfl (by simp [Tryd.ntmps10]) fun hwf E => ?_
  simp (disch := omega) [go_sem, ints_len, sets_len, rows_len] at hwf
  simp (disch := omega) [Tryd.ntmps10, go_sem, ints_len]
  refine callK_bool hg [] (by simp [go_sem, hp1, hp2, hp3, hp4, hp5, hp6]) (fun h1 => ?_) (fun h1 => ?_)
  · simp (disch := omega) [go_sem, h1, ints_len]
  · simp (disch := omega) [go_sem, h1, ints_len]

end Go.Proofs.YtdeionjkcmpnpaaDoor
