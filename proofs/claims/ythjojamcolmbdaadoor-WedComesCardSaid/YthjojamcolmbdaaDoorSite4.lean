/- The layer site: what lies between phases. -/
import Derived.Test.YthjojamcolmbdaaDoorSite3
namespace Go.Proofs.YthjojamcolmbdaaDoor
open Go.AM Go.RowKit
set_option maxRecDepth 100000

def bitsOf (s : Nat) : List Nat := (List.range 32).filter fun j => s.testBit j
theorem bitsOf_zero : bitsOf 0 = [] := by decide
theorem bitsOf_mem {s b : Nat} : b ∈ bitsOf s ↔ b < 32 ∧ s.testBit b = true := by simp [bitsOf]
theorem range_split (k : Nat) (hk : k < 32) : List.range 32 = List.range k ++ [k] ++ (List.range (31 - k)).map (k + 1 + ·) := by
  have : ∀ k : Fin 32, List.range 32 = List.range k.val ++ [k.val] ++ (List.range (31 - k.val)).map (k.val + 1 + ·) := by decide +kernel
  exact this ⟨k, hk⟩
theorem bitsOf_step {s : Nat} (h : s ≠ 0) (hs : s < 4294967296) : bitsOf s = lowN s :: bitsOf (withoutN s (lowN s)) := by
  obtain ⟨hk, h1, h2, -⟩ := low_ex s h hs
  generalize lowN s = k at *
  have hw := withoutN_testBit hs (k : Int)
  unfold bitsOf
  rw [range_split k hk]
  simp only [List.filter_append]
  have a1 : (List.range k).filter (fun j => s.testBit j) = [] := by
    rw [List.filter_eq_nil_iff]; intro j hj; simp [h2 j (by simpa using hj)]
  have a2 : (List.range k).filter (fun j => (withoutN s (k : Int)).testBit j) = [] := by
    rw [List.filter_eq_nil_iff]; intro j hj; simp [hw, h2 j (by simpa using hj)]
  have a3 : ([k] : List Nat).filter (fun j => (withoutN s (k : Int)).testBit j) = [] := by simp [hw]
  have a4 : ((List.range (31 - k)).map (k + 1 + ·)).filter (fun j => (withoutN s (k : Int)).testBit j) = ((List.range (31 - k)).map (k + 1 + ·)).filter (fun j => s.testBit j) := by
    apply List.filter_congr
    intro j hj
    simp only [List.mem_map, List.mem_range] at hj
    obtain ⟨i, _, rfl⟩ := hj
    rw [hw]
    rw [decide_eq_false (show ¬ ((k + 1 + i : Nat) : Int) = (k : Int) by omega)]; simp
  rw [a1, a2, a3, a4]
  simp [h1]

def maxI (m x : Int) : Int := if m < x then x else m
def most (row : List Int) (t : Nat) (n : Int) : Int := (bitsOf t).foldl (fun m b => maxI m (row.getD b 0)) n
theorem most_zero (row : List Int) (n : Int) : most row 0 n = n := by simp [most, bitsOf_zero]
theorem most_step {row : List Int} {t : Nat} {n : Int} (h : t ≠ 0) (ht : t < 4294967296) : most row t n = most row (withoutN t (lowN t)) (maxI n (row.getD (lowN t) 0)) := by
  unfold most; rw [bitsOf_step h ht]; rfl
def clearRow (s : Sit) (A B a : Nat) (n : Int) : Int := if A.testBit a = true then most (s.between.getD a []) (s.apart.getD a 0 &&& B) n else n
def clearK (s : Sit) (A B k : Nat) : Int := (List.range k).foldl (fun m a => clearRow s A B a m) 0
theorem clearK_succ (s : Sit) (A B k : Nat) : clearK s A B (k + 1) = clearRow s A B k (clearK s A B k) := by
  simp [clearK, List.range_succ]
def setAt (s : Sit) (i : Nat) : Nat := ((s.phases[i]?).map Pha.set).getD 0
def clearN (s : Sit) (i j : Nat) : Int := clearK s (setAt s i) (setAt s j) s.groups.length

theorem wf_phas : ∀ {l : List Pha}, wfs (l.map phaV) → ∀ p ∈ l, p.set < 4294967296
  | [], _, p, hp => by simp at hp
  | x :: l, h, p, hp => by
    simp only [List.map_cons, wfs] at h
    rcases List.mem_cons.1 hp with rfl | hp
    · have := h.1
      simp [phaV, go_sem] at this
      omega
    · exact wf_phas h.2 p hp

theorem clear_spec (s : Sit) (i j : Nat) (hS : Shaped s) (hi : i < s.phases.length) (hj : j < s.phases.length) : FnD Tryd.prog 81 [sitV s, .int .i64 i, .int .i64 j] (.int .i64 (clearN s i j)) tabG := by
  have hpu := (⟨grps_pure s.groups, phas_pure s.phases, eyes_pure s.eyes, plns_pure s.plans, sets_pure s.apart, rows_pure s.between⟩ : _ ∧ _ ∧ _ ∧ _ ∧ _ ∧ _)
  obtain ⟨hp1, hp2, hp3, hp4, hp5, hp6⟩ := hpu
  obtain ⟨hn, ha, hb, hph, -, -, hrow⟩ := hS
  unfold sitV
  refine fnD_of mixed Tryd.func81 rfl rfl (by simp [Tryd.ntmps81]) fun hwf E => ?_
  simp (disch := omega) [go_sem] at hwf
  have hws := wf_phas hwf.1.2.2.2.2.1.2
  have hA : setAt s i < 4294967296 := by simp only [setAt, List.getElem?_eq_getElem hi]; exact hws _ (List.getElem_mem hi)
  have hB : setAt s j < 4294967296 := by simp only [setAt, List.getElem?_eq_getElem hj]; exact hws _ (List.getElem_mem hj)
  have hpi : nth (s.phases.map phaV) i = phaV s.phases[i] := nth_map hi
  have hpj : nth (s.phases.map phaV) j = phaV s.phases[j] := nth_map hj
  have hsi : s.phases[i].set = setAt s i := by simp [setAt, hi]
  have hsj : s.phases[j].set = setAt s j := by simp [setAt, hj]
  simp (disch := omega) [Tryd.ntmps81, go_sem]
  unfold clearN
  generalize setAt s i = A at *
  generalize setAt s j = B at *
  refine awz_loop mixed (fun k : Nat => ⟨[(13, .int .i64 k), (12, .int .i64 s.groups.length), (6, .int .i64 (clearK s A B k)), (3, .ptr 0 1 0 0), (1, .int .i64 i), (2, .int .i64 j)], [(0, ⟨.box, 29, 12, [sitV s]⟩)], 1024, [], 56, 0, tabG⟩)
    (fun k => k ≤ s.groups.length) (fun k => s.groups.length - k) 0 (by simp) ?_ ?_
  · refine Le.mk [(0, some 0)] [0] ⟨rfl, rfl, rfl⟩ ?_ ?_ ?_ <;> simp [go_sem, sitV, hp1, hp2, hp3, hp4, hp5, hp6, clearK]
  · intro k hk
    simp (disch := omega) [go_sem, sitV]
    refine br_of (fun h => ?_) (fun h => ?_) <;> simp at h
    · simp (disch := omega) [go_sem, sitV, hpi, phaV, hi, hsi]
      refine callK_bool (has_spec A k hA) [] (by simp [go_sem]) (fun h1 => ?_) (fun h1 => ?_)
      · have hA1 : A.testBit k = true := by simpa [hasN] using h1
        have hka : k < s.apart.length := by omega
        have hkb : k < s.between.length := by omega
        have hro := hrow k hkb
        unfold rowOk at hro
        have g1 : s.between.getD k [] = s.between[k] := by simp [hkb]
        have g2 : s.apart.getD k 0 = s.apart[k] := by simp [hka]
        rw [g1, g2] at hro
        obtain ⟨hr1, hr2⟩ := hro
        have hr3 : s.apart[k] < 65536 := Nat.lt_of_lt_of_le hr2 (show 2 ^ s.groups.length ≤ 2 ^ 16 from Nat.pow_le_pow_right (by omega) hn.2)
        have hgoal : clearK s A B (k + 1) = most s.between[k] (s.apart[k] &&& B) (clearK s A B k) := by
          rw [clearK_succ]; unfold clearRow; rw [if_pos hA1, g1, g2]
        have hlt : s.apart[k] &&& B < 4294967296 := and_lt (by omega)
        have hbits : ∀ b, (s.apart[k] &&& B).testBit b = true → b < s.groups.length := by
          intro b hb
          rw [Nat.testBit_and] at hb
          apply Classical.byContradiction
          intro hnb
          have : s.apart[k].testBit b = false := Nat.testBit_lt_two_pow (Nat.lt_of_lt_of_le hr2 (Nat.pow_le_pow_right (by omega) (by omega)))
          simp [this] at hb
        simp (disch := omega) [go_sem, sitV, hpj, phaV, hj, hsj, nth_sets, hka, sets_len]
        refine ⟨by kernel_rfl, ?_⟩
        refine awz_loop mixed (fun q : Nat × Int => ⟨[(8, .int .u32 (q.1 : Int)), (6, .int .i64 q.2), (7, .int .i64 k), (13, .int .i64 k), (12, .int .i64 s.groups.length), (3, .ptr 0 1 0 0), (1, .int .i64 i), (2, .int .i64 j)], [(0, ⟨.box, 29, 12, [sitV s]⟩)], 2048, [], 56, 0, tabG⟩)
          (fun q => q.1 < 4294967296 ∧ (∀ b, q.1.testBit b = true → b < s.groups.length) ∧ most s.between[k] q.1 q.2 = clearK s A B (k + 1)) (fun q => (bitsOf q.1).length) (s.apart[k] &&& B, clearK s A B k) ⟨hlt, hbits, hgoal.symm⟩ ?_ ?_
        · refine Le.mk [(0, some 0)] [0] ⟨rfl, rfl, rfl⟩ ?_ ?_ ?_ <;> simp [go_sem, sitV, hp1, hp2, hp3, hp4, hp5, hp6]
        · rintro ⟨t, m⟩ ⟨ht, htb, htm⟩
          simp only at ht htb htm
          simp (disch := omega) [go_sem, sitV]
          refine br_of (fun h3 => ?_) (fun h3 => ?_) <;> simp at h3
          · obtain ⟨hk1, hk2, -, -⟩ := low_ex t h3 ht
            have hls := least_spec t ht
            rw [show leastN t = (lowN t : Int) by simp [leastN, h3]] at hls
            have hwo := without_spec t (lowN t) ht
            have hbl := htb _ hk2
            have hst := most_step (row := s.between[k]) (n := m) h3 ht
            have hlen := congrArg List.length (bitsOf_step h3 ht)
            generalize lowN t = b at *
            have hbr : b < s.between[k].length := by omega
            have g3 : s.between[k].getD b 0 = s.between[k][b] := by simp [hbr]
            simp (disch := omega) [go_sem]
            refine callK_data hls [] (by simp [go_sem]) (.inl rfl) (by simp [go_sem]) (fun _ => ?_) (by simp [tabG, go_sem])
            simp (disch := omega) [go_sem]
            refine callK_data hwo [] (by simp [go_sem]) (.inl rfl) (by simp [go_sem]) (fun _ => ?_)
            simp (disch := omega) [go_sem, sitV, nth_rows, hkb, rows_len, nth_ints, ints_len, hbr]
            refine round_of (withoutN t b, maxI m s.between[k][b]) ⟨withoutN_lt _ _, fun c hc => ?_, ?_⟩ ?_ (Le.mk [(0, some 0)] [0] ⟨rfl, rfl, rfl⟩ ?_ ?_ ?_)
            · rw [withoutN_testBit ht] at hc
              exact htb c (by simp at hc; exact hc.1)
            · rw [← htm, hst, g3]
            · simp at hlen ⊢; omega
            all_goals simp [go_sem, sitV, hp1, hp2, hp3, hp4, hp5, hp6, maxI]
          · subst h3
            rw [most_zero] at htm
            simp (disch := omega) [go_sem]
            refine round_of (k + 1) (by omega) (by omega) (Le.mk [(0, some 0)] [0] ⟨rfl, rfl, rfl⟩ ?_ ?_ ?_)
            all_goals simp [go_sem, sitV, hp1, hp2, hp3, hp4, hp5, hp6, htm]
      · have hA1 : A.testBit k = false := by simpa [hasN] using h1
        have hcs : clearK s A B (k + 1) = clearK s A B k := by rw [clearK_succ]; unfold clearRow; rw [if_neg (by simp [hA1])]
        simp (disch := omega) [go_sem]
        refine round_of (k + 1) (by omega) (by omega) (Le.mk [(0, some 0)] [0] ⟨rfl, rfl, rfl⟩ ?_ ?_ ?_)
        all_goals simp [go_sem, sitV, hp1, hp2, hp3, hp4, hp5, hp6, hcs]
    · have hkn : k = s.groups.length := by omega
      subst hkn
      simp (disch := omega) [go_sem]
end Go.Proofs.YthjojamcolmbdaaDoor
