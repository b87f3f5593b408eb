
/- The layer wed: groups. -/
import Derived.Test.YtdeionjkcmpnpaaDoorWed
import Derived.Test.YtdeionjkcmpnpaaDoorAmMore
set_option linter.unusedSimpArgs false
set_option linter.unusedVariables false
namespace Go.Proofs.YtdeionjkcmpnpaaDoor
open Go.AM Go.RowKit
set_option maxRecDepth 100000

/-! slices.Clone of numbers: its answer is new memory -/
theorem clone_ints (l : List Int) (hb : l.length ≤ 1099511627776) : FnR Tryd.prog 138 [] [.sl 1 (ints l)] [⟨.arr, 3, 1, ints l⟩] (.obj 0 l.length) := by
  have hp := ints_pure l
  refine fnR_split (fun hx => ?_) ?_
  · have hl : l = [] := by simpa [ints] using hx
    subst hl
    refine fnR_of mixed Tryd.func138 rfl rfl (by simp [Tryd.ntmps138]) (by simp) fun hwf E => ?_
    simp (disch := omega) [Tryd.ntmps138, go_sem]
    refine Le.mk [(0, none)] [] ⟨rfl, rfl, rfl⟩ ?_ ?_ ?_ <;> simp [go_sem, ints]
  · refine fnR_of mixed Tryd.func138 rfl rfl (by simp [Tryd.ntmps138]) (by simp) fun hwf E => ?_
    simp (disch := omega) [go_sem, ints_len] at hwf
    simp (disch := omega) [Tryd.ntmps138, go_sem, ints_len]
    refine ⟨⟨by omega, by omega⟩, Le.mk [(0, some 64)] [64] ⟨rfl, rfl, rfl⟩ ?_ ?_ ?_⟩ <;> simp [go_sem, hp]

/-! groups, the plain law -/
def bondsV (l : List (Bool × Int)) : List V := l.map bondV
theorem bonds_pure (l : List (Bool × Int)) : pures (bondsV l) := pures_map _ (fun u => by simp [bondV, go_sem]) l
def idK (n k : Nat) : List Int := (List.range n).map fun i => if i < k then (i : Int) else 0
theorem idK_len (n k : Nat) : (idK n k).length = n := by simp [idK]
def minI (m x : Int) : Int := if x < m then x else m
/-- Two groups made one. -/
def mergeV (x y v : Int) : Int := if v = maxI x y then minI x y else v
def mergeG (g : List Int) (x y : Int) : List Int := g.map (mergeV x y)
def mergeK (g : List Int) (x y : Int) (k : Nat) : List Int := (g.take k).map (mergeV x y) ++ g.drop k
def aAt (n : NetN) (i : Nat) : Nat := (((n.weds[i]?).map WedN.a).getD 0).toNat
def bAt (n : NetN) (i : Nat) : Nat := (((n.weds[i]?).map WedN.b).getD 0).toNat
def tog (l : List (Bool × Int)) (i : Nat) : Bool := ((l[i]?).map Prod.fst).getD false
/-- A wed that goes together joins two groups that are not one yet. -/
def joins (n : NetN) (l : List (Bool × Int)) (g : List Int) (i : Nat) : Bool := tog l i && decide (g.getD (aAt n i) 0 ≠ g.getD (bAt n i) 0)
def firstJ (n : NetN) (l : List (Bool × Int)) (g : List Int) : Option Nat := (List.range n.weds.length).find? (joins n l g)
def grF (n : NetN) (l : List (Bool × Int)) : Nat → List Int → List Int
  | 0, g => g
  | f + 1, g => match firstJ n l g with
    | none => g
    | some i => grF n l f (mergeG g (g.getD (aAt n i) 0) (g.getD (bAt n i) 0))
def sumG (g : List Int) : Nat := g.sum.toNat
/-- The subs' groups. -/
def groupsN (n : NetN) (l : List (Bool × Int)) : List Int := grF n l (sumG (idK n.subs.length n.subs.length)) (idK n.subs.length n.subs.length)
/-- What holds of groups at all times. -/
structure GrOk (n : NetN) (g : List Int) : Prop where
  len : g.length = n.subs.length
  le : ∀ i, ∀ h : i < g.length, 0 ≤ g[i] ∧ g[i] ≤ i
  own : ∀ i, ∀ h : i < g.length, g.getD g[i].toNat 0 = g[i]
theorem GrOk.id (n : NetN) : GrOk n (idK n.subs.length n.subs.length) := by
  refine ⟨idK_len _ _, fun i h => ?_, fun i h => ?_⟩
  · rw [idK_len] at h
    simp [idK, h]
  · rw [idK_len] at h
    simp [idK, h]
theorem GrOk.merge {n : NetN} {g : List Int} (h : GrOk n g) {a b : Nat} (ha : a < g.length) (hb : b < g.length) (hne : g[a] ≠ g[b]) : GrOk n (mergeG g g[a] g[b]) := by
  have hla := h.le a ha
  have hlb := h.le b hb
  have hoa := h.own a ha
  have hob := h.own b hb
  have hlen : (mergeG g g[a] g[b]).length = g.length := by simp [mergeG]
  have hat : ∀ i (hi : i < g.length), (mergeG g g[a] g[b])[i]'(by rw [hlen]; exact hi) = mergeV g[a] g[b] g[i] := fun i hi => by simp [mergeG]
  have hget : ∀ x : Nat, x < g.length → (mergeG g g[a] g[b]).getD x 0 = mergeV g[a] g[b] (g.getD x 0) := fun x hx => by
    simp [mergeG, hx]
  have hmm : minI g[a] g[b] < maxI g[a] g[b] ∧ (minI g[a] g[b] = g[a] ∨ minI g[a] g[b] = g[b]) ∧ 0 ≤ minI g[a] g[b] := by
    unfold minI maxI; split <;> split <;> omega
  refine ⟨by rw [hlen]; exact h.len, fun i hi => ?_, fun i hi => ?_⟩
  · rw [hlen] at hi
    rw [hat i hi]
    have := h.le i hi
    unfold mergeV
    split <;> omega
  · rw [hlen] at hi
    rw [hat i hi]
    have h1 := h.le i hi
    have h2 := h.own i hi
    by_cases hc : g[i] = maxI g[a] g[b]
    · have e : mergeV g[a] g[b] g[i] = minI g[a] g[b] := by unfold mergeV; rw [if_pos hc]
      rw [e]
      have hlt : (minI g[a] g[b]).toNat < g.length := by omega
      rw [hget _ hlt]
      have hself : g.getD (minI g[a] g[b]).toNat 0 = minI g[a] g[b] := by
        rcases hmm.2.1 with e | e <;> rw [e] <;> assumption
      rw [hself]
      unfold mergeV
      rw [if_neg (by omega)]
    · have e : mergeV g[a] g[b] g[i] = g[i] := by unfold mergeV; rw [if_neg hc]
      rw [e, hget _ (by omega), h2, e]
theorem sum_merge {g : List Int} {x y : Int} (h0 : ∀ v ∈ g, 0 ≤ v) (hmn : minI x y < maxI x y) (h1 : 0 ≤ minI x y) (hmem : maxI x y ∈ g) : sumG (mergeG g x y) < sumG g := by
  have key : ∀ g : List Int, (∀ v ∈ g, 0 ≤ v) → 0 ≤ (mergeG g x y).sum ∧ (mergeG g x y).sum ≤ g.sum ∧ (maxI x y ∈ g → (mergeG g x y).sum < g.sum) := by
    intro g
    induction g with
    | nil => intro _; simp [mergeG]
    | cons v g ih =>
      intro h
      obtain ⟨i1, i2, i3⟩ := ih fun u hu => h u (by simp [hu])
      have hv := h v (by simp)
      have hs : (mergeG (v :: g) x y).sum = mergeV x y v + (mergeG g x y).sum := by simp [mergeG]
      rw [hs, List.sum_cons]
      by_cases hc : v = maxI x y
      · have e : mergeV x y v = minI x y := by unfold mergeV; rw [if_pos hc]
        rw [e]
        exact ⟨by omega, by omega, fun _ => by omega⟩
      · have e : mergeV x y v = v := by unfold mergeV; rw [if_neg hc]
        rw [e]
        refine ⟨by omega, by omega, fun hm => ?_⟩
        rcases List.mem_cons.1 hm with hm | hm
        · exact absurd hm.symm hc
        · have := i3 hm; omega
  obtain ⟨k1, k2, k3⟩ := key g h0
  have := k3 hmem
  unfold sumG
  omega

theorem firstJ_some {n : NetN} {l : List (Bool × Int)} {g : List Int} {k : Nat} (h : k < n.weds.length) (hj : joins n l g k = true) (hno : ∀ j, j < k → joins n l g j = false) : firstJ n l g = some k := by
  unfold firstJ
  rw [List.find?_range_eq_some]
  exact ⟨hj, by simpa using h, fun j hj' => by simp [hno j hj']⟩
theorem firstJ_none {n : NetN} {l : List (Bool × Int)} {g : List Int} (hno : ∀ j, j < n.weds.length → joins n l g j = false) : firstJ n l g = none := by
  unfold firstJ
  rw [List.find?_eq_none]
  intro j hj
  rw [List.mem_range] at hj
  simp [hno j hj]
theorem idK_succ {n k : Nat} (h : k < n) : (idK n k).set k (k : Int) = idK n (k + 1) := by
  apply List.ext_getElem?
  intro j
  rw [List.getElem?_set]
  simp only [idK, List.length_map, List.length_range, List.getElem?_map, List.getElem?_range]
  by_cases e : k = j
  · subst e; simp [h]
  · by_cases hj : j < n
    · by_cases h1 : j < k
      · simp [e, hj, h1, show j < k + 1 by omega]
      · simp [e, hj, h1, show ¬ j < k + 1 by omega]
    · simp [e, hj]
theorem idK_zero (n : Nat) : ints (idK n 0) = List.replicate n (V.int .i64 0) := by
  apply List.ext_getElem?
  intro j
  by_cases hj : j < n <;> simp [ints, idK, hj, List.getElem?_replicate]
theorem mergeK_zero (g : List Int) (x y : Int) : mergeK g x y 0 = g := by simp [mergeK]
theorem mergeK_all (g : List Int) (x y : Int) : mergeK g x y g.length = mergeG g x y := by simp [mergeK, mergeG]
theorem mergeK_len (g : List Int) (x y : Int) (k : Nat) : (mergeK g x y k).length = g.length := by simp [mergeK]; omega
theorem mergeK_at {g : List Int} {x y : Int} {k : Nat} (h : k < g.length) : (mergeK g x y k)[k]'(by rw [mergeK_len]; exact h) = g[k] := by
  unfold mergeK
  rw [List.getElem_append_right (by simp; omega)]
  simp [show min k g.length = k by omega]
theorem mergeK_set {g : List Int} {x y : Int} {k : Nat} (h : k < g.length) : (mergeK g x y k).set k (mergeV x y g[k]) = mergeK g x y (k + 1) := by
  unfold mergeK
  have hk : k - ((g.take k).map (mergeV x y)).length = 0 := by simp; omega
  rw [List.set_append_right _ _ (by simp; omega), hk, List.drop_eq_getElem_cons h, List.set_cons_zero, List.take_succ_eq_append_getElem h, List.map_append, List.append_assoc]
  rfl
theorem mergeK_same {g : List Int} {x y : Int} {k : Nat} (h : k < g.length) (hn : g[k] ≠ maxI x y) : mergeK g x y (k + 1) = mergeK g x y k := by
  have e : mergeV x y g[k] = g[k] := by unfold mergeV; rw [if_neg hn]
  rw [← mergeK_set h, e]
  have := mergeK_at (x := x) (y := y) h
  conv => lhs; rw [← this]
  exact List.set_getElem_self _

def grS (n : NetN) (l : List (Bool × Int)) (sl : List (Nat × V)) (xs : List Int) (nx : Nat) : St :=
  ⟨sl ++ [(5, .obj 80 n.subs.length), (2, .ptr 0 1 0 0), (1, .sl 2 (bondsV l))], [(80, ⟨.arr, 3, 1, ints xs⟩), (0, ⟨.box, 77, 6, [netV n]⟩)], nx, [], 76, 0, []⟩
def grG (n : NetN) (l : List (Bool × Int)) (p : List Int × Nat) : St := grS n l [] p.1 2048
def grI (n : NetN) (l : List (Bool × Int)) (p : List Int × Nat) : Prop := GrOk n p.1 ∧ sumG p.1 ≤ p.2 ∧ groupsN n l = grF n l p.2 p.1
theorem gints_set (l : List Int) (k : Nat) (x : Int) : (ints l).set k (.int .i64 x) = ints (l.set k x) := by simp [ints, List.map_set]
theorem pures_rep (n : Nat) : pures (List.replicate n (V.int .i64 0)) := by
  induction n with
  | zero => simp [pures]
  | succ n ih => simp [List.replicate_succ, pures, V.pure, ih]
set_option maxHeartbeats 4000000 in
theorem groups_spec (n : NetN) (l : List (Bool × Int)) (hn : NetOk n) (hl : l.length = n.weds.length) : FnD Tryd.prog 80 [netV n, .sl 2 (bondsV l)] (.sl 1 (ints (groupsN n l))) := by
  have hp1 := sits_pure n.sites
  have hp2 := subs_pure n.subs
  have hp3 := weds_pure n.weds
  have hpb := bonds_pure l
  have hbl : (bondsV l).length = l.length := by simp [bondsV]
  have hnv : netV n = .agg [.sl 12 (n.sites.map sitV), .sl 2 (n.subs.map subV), .sl 4 (n.weds.map wedV), .int .i64 n.low, .int .i64 n.high, .int .i64 n.step] := rfl
  have hwk : ∀ k, ∀ h : k < n.weds.length, 0 ≤ n.weds[k].a ∧ n.weds[k].a < n.weds[k].b ∧ n.weds[k].b < n.subs.length := fun k h => by
    have := hn.2.2.2.2.2 _ (List.getElem_mem h)
    exact ⟨this.1, this.2.1, this.2.2.1⟩
  rw [hnv]
  refine fnD_of mixed Tryd.func80 rfl rfl (by simp [Tryd.ntmps80]) fun hwf E => ?_
  simp (disch := omega) [go_sem] at hwf
  have hs6 : n.subs.length ≤ 6 := hn.2.2.1.1.2
  have hpr := pures_rep n.subs.length
  simp (disch := omega) [Tryd.ntmps80, go_sem]
  refine awz_scope3 mixed ⟨rfl, rfl⟩ (grG n l) (grI n l) (fun p => p.2) ?_ ?_
  · simp (disch := omega) [go_sem]
    refine ⟨by omega, ?_⟩
    refine awz_loop mixed (fun k : Nat => grS n l [(19, .int .i64 k), (18, .int .i64 n.subs.length)] (idK n.subs.length k) 1024) (fun k => k ≤ n.subs.length) (fun k => n.subs.length - k) 0 (by omega) ?_ ?_
    · refine Le.mk [(0, some 0), (80, some 80)] [0, 80] ⟨rfl, rfl, rfl⟩ ?_ ?_ ?_ <;> simp [go_sem, grS, netV, hp1, hp2, hp3, hpb, idK_zero, hpr]
    · intro k hk
      simp (disch := omega) [go_sem, grS, netV]
      refine br_of (fun h => ?_) (fun h => ?_) <;> simp at h
      · have hset := idK_succ h
        have hsb : (ints (idK n.subs.length k)).set k (.int .i64 (k : Int)) = ints (idK n.subs.length (k + 1)) := by rw [gints_set, hset]
        have hnt := nth_ints (l := idK n.subs.length k) (k := k) (by rw [idK_len]; exact h)
        simp (disch := omega) [go_sem, ints_len, idK_len, hnt]
        refine ⟨h, round_of (k + 1) (by omega) (by omega) (Le.mk [(0, some 0), (80, some 80)] [0, 80] ⟨rfl, rfl, rfl⟩ ?_ ?_ ?_)⟩ <;> simp [go_sem, grS, netV, hp1, hp2, hp3, hpb, hsb, ints_pure]
      · have hkl : k = n.subs.length := by omega
        subst hkl
        simp (disch := omega) [go_sem]
        refine start_of (idK n.subs.length n.subs.length, sumG (idK n.subs.length n.subs.length)) ⟨GrOk.id n, Nat.le_refl _, rfl⟩ (Le.mk [(0, some 0), (80, some 80)] [0, 80] ⟨rfl, rfl, rfl⟩ ?_ ?_ ?_) <;> simp [go_sem, grG, grS, netV, hp1, hp2, hp3, hpb, ints_pure]
  · rintro ⟨g, f⟩ ⟨hg, hf, hgr⟩
    simp only at hg hf hgr
    have hgl := hg.len
    simp (disch := omega) [go_sem, grG, grS, netV]
    refine awz_loop mixed (fun k : Nat => grS n l [(30, .int .i64 k), (29, .int .i64 n.weds.length), (28, .sl 4 (n.weds.map wedV))] g 4096) (fun k => k ≤ n.weds.length ∧ ∀ j, j < k → joins n l g j = false) (fun k => n.weds.length - k) 0 ⟨by omega, fun j h => by omega⟩ ?_ ?_
    · refine Le.mk [(0, some 0), (80, some 80)] [0, 80] ⟨rfl, rfl, rfl⟩ ?_ ?_ ?_ <;> simp [go_sem, grS, netV, hp1, hp2, hp3, hpb, ints_pure]
    · rintro k ⟨hk, hno⟩
      simp (disch := omega) [go_sem, grS, netV]
      refine br_of (fun h => ?_) (fun h => ?_) <;> simp at h
      · have hw := hwk k h
        have hgw : nth (n.weds.map wedV) k = wedV n.weds[k] := nth_map h
        have ha : aAt n k = n.weds[k].a.toNat := by simp [aAt, h]
        have hb : bAt n k = n.weds[k].b.toNat := by simp [bAt, h]
        have hkl : k < l.length := by omega
        have hgb : nth (bondsV l) k = bondV l[k] := nth_map hkl
        have ht : tog l k = l[k].1 := by simp [tog, hkl]
        have hJ : joins n l g k = (tog l k && decide (g.getD (aAt n k) 0 ≠ g.getD (bAt n k) 0)) := rfl
        generalize n.weds[k] = w at *
        obtain ⟨wa, wb, wv, wo⟩ := w
        simp only at hw ha hb
        obtain ⟨a, rfl⟩ := Int.eq_ofNat_of_zero_le hw.1
        obtain ⟨b, rfl⟩ := Int.eq_ofNat_of_zero_le (show 0 ≤ wb by omega)
        have hal : a < g.length := by omega
        have hbl2 : b < g.length := by omega
        have hga : nth (ints g) a = .int .i64 g[a] := nth_ints hal
        have hgbb : nth (ints g) b = .int .i64 g[b] := nth_ints hbl2
        rw [ha, hb, Int.toNat_natCast, Int.toNat_natCast] at hJ
        rw [show g.getD a 0 = g[a] by simp [hal], show g.getD b 0 = g[b] by simp [hbl2], ht] at hJ
        have hiw := ints_pure wo
        simp (disch := omega) [go_sem, h, hgw, wedV, hga, hgbb, ints_len, hgl, hbl, hgb, bondV]
        refine ⟨by omega, by omega, .inl (by kernel_rfl), ?_⟩
        refine ⟨hkl, ?_⟩
        refine br_of (fun hc => ?_) (fun hc => ?_) <;> simp at hc
        · obtain ⟨hc1, hc2⟩ := hc
          have hjt : joins n l g k = true := by rw [hJ]; simp [hc1, hc2]
          have hfs := firstJ_some h hjt hno
          simp (disch := omega) [go_sem]
          refine ⟨by rw [ints_len]; exact hgl.symm, ?_⟩
          refine awz_loop mixed (fun m : Nat => grS n l [(57, .int .i64 m), (56, .int .i64 n.subs.length), (55, .obj 80 n.subs.length), (30, .int .i64 k), (29, .int .i64 n.weds.length), (28, .sl 4 (n.weds.map wedV)), (10, .int .i64 g[b]), (9, .int .i64 g[a])] (mergeK g g[a] g[b] m) 8192) (fun m => m ≤ n.subs.length) (fun m => n.subs.length - m) 0 (by omega) ?_ ?_
          · refine Le.mk [(0, some 0), (80, some 80)] [0, 80] ⟨rfl, rfl, rfl⟩ ?_ ?_ ?_ <;> simp [go_sem, grS, netV, hp1, hp2, hp3, hpb, ints_pure, mergeK_zero]
          · intro m hm
            simp (disch := omega) [go_sem, grS, netV]
            refine br_of (fun h3 => ?_) (fun h3 => ?_) <;> simp at h3
            · have hmg : m < g.length := by omega
              have hmk := mergeK_at (x := g[a]) (y := g[b]) hmg
              have hnt := nth_ints (l := mergeK g g[a] g[b] m) (k := m) (by rw [mergeK_len]; exact hmg)
              rw [hmk] at hnt
              simp (disch := omega) [go_sem, ints_len, mergeK_len, hnt, hgl]
              refine ⟨h3, br_of (fun h4 => ?_) (fun h4 => ?_)⟩ <;> simp at h4
              · have hset := mergeK_set (x := g[a]) (y := g[b]) hmg
                have hmv : mergeV g[a] g[b] g[m] = minI g[a] g[b] := if_pos h4
                rw [hmv] at hset
                have hsb : (ints (mergeK g g[a] g[b] m)).set m (.int .i64 (minI g[a] g[b])) = ints (mergeK g g[a] g[b] (m + 1)) := by rw [gints_set, hset]
                unfold minI at hsb
                simp (disch := omega) [go_sem, ints_len, mergeK_len, hgl, hnt]
                refine ⟨h3, round_of (m + 1) (by omega) (by omega) (Le.mk [(0, some 0), (80, some 80)] [0, 80] ⟨rfl, rfl, rfl⟩ ?_ ?_ ?_)⟩ <;> simp [go_sem, grS, netV, hp1, hp2, hp3, hpb, ints_pure, hsb]
              · have hset := mergeK_same (x := g[a]) (y := g[b]) hmg h4
                simp (disch := omega) [go_sem]
                refine round_of (m + 1) (by omega) (by omega) (Le.mk [(0, some 0), (80, some 80)] [0, 80] ⟨rfl, rfl, rfl⟩ ?_ ?_ ?_) <;> simp [go_sem, grS, netV, hp1, hp2, hp3, hpb, ints_pure, hset]
            · have hml : m = g.length := by omega
              subst hml
              rw [mergeK_all]
              simp (disch := omega) [go_sem]
              have hok := hg.merge hal hbl2 hc2
              have h0 : ∀ v ∈ g, 0 ≤ v := fun v hv => by
                obtain ⟨i, hi, rfl⟩ := List.getElem_of_mem hv
                exact (hg.le i hi).1
              have hmm : minI g[a] g[b] < maxI g[a] g[b] ∧ 0 ≤ minI g[a] g[b] ∧ (maxI g[a] g[b] = g[a] ∨ maxI g[a] g[b] = g[b]) := by
                have := (hg.le a hal).1
                have := (hg.le b hbl2).1
                unfold minI maxI; split <;> split <;> omega
              have hmem : maxI g[a] g[b] ∈ g := by
                rcases hmm.2.2 with e | e <;> rw [e] <;> exact List.getElem_mem _
              have hlt := sum_merge h0 hmm.1 hmm.2.1 hmem
              obtain ⟨f', rfl⟩ : ∃ f', f = f' + 1 := ⟨f - 1, by omega⟩
              have hgr2 : groupsN n l = grF n l f' (mergeG g g[a] g[b]) := by
                rw [hgr, grF, hfs]
                simp only [ha, hb]
                rw [show g.getD (Int.toNat (a : Nat)) 0 = g[a] by simp [hal], show g.getD (Int.toNat (b : Nat)) 0 = g[b] by simp [hbl2]]
              refine jump_of (mergeG g g[a] g[b], f') ⟨⟨hok, by simp only; omega, hgr2⟩, by simp only; omega⟩ (Le.mk [(0, some 0), (80, some 80)] [0, 80] ⟨rfl, rfl, rfl⟩ ?_ ?_ ?_) <;> simp [go_sem, grG, grS, netV, hp1, hp2, hp3, hpb, ints_pure]
        · have hjf : joins n l g k = false := by
            rw [hJ]
            cases hq : l[k].1 <;> simp
            exact hc hq
          simp (disch := omega) [go_sem]
          refine round_of (k + 1) ⟨by omega, fun j hj => ?_⟩ (by omega) (Le.mk [(0, some 0), (80, some 80)] [0, 80] ⟨rfl, rfl, rfl⟩ ?_ ?_ ?_)
          · by_cases e : j = k
            · rw [e]; exact hjf
            · exact hno j (by omega)
          all_goals simp [go_sem, grS, netV, hp1, hp2, hp3, hpb, ints_pure]
      · have hkl : k = n.weds.length := by omega
        subst hkl
        have hfn := firstJ_none hno
        have hres : groupsN n l = g := by
          rw [hgr]
          cases f with
          | zero => rfl
          | succ f => rw [grF, hfn]
        rw [hres]
        simp (disch := omega) [go_sem]
        exact ⟨by rw [ints_len]; exact hgl.symm, argsLe_self (ints_pure g)⟩
end Go.Proofs.YtdeionjkcmpnpaaDoor
