/- Contracts and laws beneath the statement, in build order. -/
import Derived.Test.YtpijmanjjhpkiaaGreatDoorPBAmMore
import Derived.Test.YtpijmanjjhpkiaaGreatDoorPB1
set_option linter.unusedSimpArgs false
set_option linter.unusedVariables false
namespace Go.Proofs.YtpijmanjjhpkiaaGreatDoor
open Go.AM Go.RowKit
set_option maxRecDepth 100000

/-! slices.Clone of numbers: its answer is new memory -/
theorem clone_ints (l : List Int) (hb : l.length ≤ 1099511627776) : FnR Tryz.prog 150 [] [.sl 1 (ints l)] [⟨.arr, 3, 1, ints l⟩] (.obj 0 l.length) := by
  have hp := ints_pure l
  refine fnR_split (fun hx => ?_) ?_
  · have hl : l = [] := by simpa [ints] using hx
    subst hl
    refine fnR_of mixed Tryz.func150 rfl rfl (by simp [Tryz.ntmps150]) (by simp) fun hwf E => ?_
    simp (disch := omega) [Tryz.ntmps150, go_sem]
    refine Le.mk [(0, none)] [] ⟨rfl, rfl, rfl⟩ ?_ ?_ ?_ <;> simp [go_sem, ints]
  · refine fnR_of mixed Tryz.func150 rfl rfl (by simp [Tryz.ntmps150]) (by simp) fun hwf E => ?_
    simp (disch := omega) [go_sem, ints_len] at hwf
    simp (disch := omega) [Tryz.ntmps150, go_sem, ints_len]
    refine ⟨⟨by omega, by omega⟩, Le.mk [(0, some 64)] [64] ⟨rfl, rfl, rfl⟩ ?_ ?_ ?_⟩ <;> simp [go_sem, hp]

/-! groups, the plain law -/
def bondsV (l : List (Bool × Int)) : List V := l.map bondV
theorem bonds_pure (l : List (Bool × Int)) : pures (bondsV l) := pures_map _ (fun u => by simp [bondV, go_sem]) l
def idK (n k : Nat) : List Int := (List.range n).map fun i => if i < k then (i : Int) else 0
theorem idK_len (n k : Nat) : (idK n k).length = n := by simp [idK]
def minI (m x : Int) : Int := if x < m then x else m
/-- Two groups made one. -/
def mergeV (x y v : Int) : Int := if v = maxI x y then minI x y else v
def mergeG (g : List Int) (x y : Int) : List Int := g.map (mergeV x y)
def mergeK (g : List Int) (x y : Int) (k : Nat) : List Int := (g.take k).map (mergeV x y) ++ g.drop k
def aAt (n : NetN) (i : Nat) : Nat := (((n.weds[i]?).map WedN.a).getD 0).toNat
def bAt (n : NetN) (i : Nat) : Nat := (((n.weds[i]?).map WedN.b).getD 0).toNat
def tog (l : List (Bool × Int)) (i : Nat) : Bool := ((l[i]?).map Prod.fst).getD false
/-- A wed that goes together joins two groups that are not one yet. -/
def joins (n : NetN) (l : List (Bool × Int)) (g : List Int) (i : Nat) : Bool := tog l i && decide (g.getD (aAt n i) 0 ≠ g.getD (bAt n i) 0)
def firstJ (n : NetN) (l : List (Bool × Int)) (g : List Int) : Option Nat := (List.range n.weds.length).find? (joins n l g)
def grF (n : NetN) (l : List (Bool × Int)) : Nat → List Int → List Int
  | 0, g => g
  | f + 1, g => match firstJ n l g with
    | none => g
    | some i => grF n l f (mergeG g (g.getD (aAt n i) 0) (g.getD (bAt n i) 0))
def sumG (g : List Int) : Nat := g.sum.toNat
/-- The subs' groups. -/
def groupsN (n : NetN) (l : List (Bool × Int)) : List Int := grF n l (sumG (idK n.subs.length n.subs.length)) (idK n.subs.length n.subs.length)
/-- What holds of groups at all times. -/
structure GrOk (n : NetN) (g : List Int) : Prop where
  len : g.length = n.subs.length
  le : ∀ i, ∀ h : i < g.length, 0 ≤ g[i] ∧ g[i] ≤ i
  own : ∀ i, ∀ h : i < g.length, g.getD g[i].toNat 0 = g[i]
theorem GrOk.id (n : NetN) : GrOk n (idK n.subs.length n.subs.length) := by
  refine ⟨idK_len _ _, fun i h => ?_, fun i h => ?_⟩
  · rw [idK_len] at h
    simp [idK, h]
  · rw [idK_len] at h
    simp [idK, h]
theorem GrOk.merge {n : NetN} {g : List Int} (h : GrOk n g) {a b : Nat} (ha : a < g.length) (hb : b < g.length) (hne : g[a] ≠ g[b]) : GrOk n (mergeG g g[a] g[b]) := by
  have hla := h.le a ha
  have hlb := h.le b hb
  have hoa := h.own a ha
  have hob := h.own b hb
  have hlen : (mergeG g g[a] g[b]).length = g.length := by simp [mergeG]
  have hat : ∀ i (hi : i < g.length), (mergeG g g[a] g[b])[i]'(by rw [hlen]; exact hi) = mergeV g[a] g[b] g[i] := fun i hi => by simp [mergeG]
  have hget : ∀ x : Nat, x < g.length → (mergeG g g[a] g[b]).getD x 0 = mergeV g[a] g[b] (g.getD x 0) := fun x hx => by
    simp [mergeG, hx]
  have hmm : minI g[a] g[b] < maxI g[a] g[b] ∧ (minI g[a] g[b] = g[a] ∨ minI g[a] g[b] = g[b]) ∧ 0 ≤ minI g[a] g[b] := by
    unfold minI maxI; split <;> split <;> omega
  refine ⟨by rw [hlen]; exact h.len, fun i hi => ?_, fun i hi => ?_⟩
  · rw [hlen] at hi
    rw [hat i hi]
    have := h.le i hi
    unfold mergeV
    split <;> omega
  · rw [hlen] at hi
    rw [hat i hi]
    have h1 := h.le i hi
    have h2 := h.own i hi
    by_cases hc : g[i] = maxI g[a] g[b]
    · have e : mergeV g[a] g[b] g[i] = minI g[a] g[b] := by unfold mergeV; rw [if_pos hc]
      rw [e]
      have hlt : (minI g[a] g[b]).toNat < g.length := by omega
      rw [hget _ hlt]
      have hself : g.getD (minI g[a] g[b]).toNat 0 = minI g[a] g[b] := by
        rcases hmm.2.1 with e | e <;> rw [e] <;> assumption
      rw [hself]
      unfold mergeV
      rw [if_neg (by omega)]
    · have e : mergeV g[a] g[b] g[i] = g[i] := by unfold mergeV; rw [if_neg hc]
      rw [e, hget _ (by omega), h2, e]
theorem sum_merge {g : List Int} {x y : Int} (h0 : ∀ v ∈ g, 0 ≤ v) (hmn : minI x y < maxI x y) (h1 : 0 ≤ minI x y) (hmem : maxI x y ∈ g) : sumG (mergeG g x y) < sumG g := by
  have key : ∀ g : List Int, (∀ v ∈ g, 0 ≤ v) → 0 ≤ (mergeG g x y).sum ∧ (mergeG g x y).sum ≤ g.sum ∧ (maxI x y ∈ g → (mergeG g x y).sum < g.sum) := by
    intro g
    induction g with
    | nil => intro _; simp [mergeG]
    | cons v g ih =>
      intro h
      obtain ⟨i1, i2, i3⟩ := ih fun u hu => h u (by simp [hu])
      have hv := h v (by simp)
      have hs : (mergeG (v :: g) x y).sum = mergeV x y v + (mergeG g x y).sum := by simp [mergeG]
      rw [hs, List.sum_cons]
      by_cases hc : v = maxI x y
      · have e : mergeV x y v = minI x y := by unfold mergeV; rw [if_pos hc]
        rw [e]
        exact ⟨by omega, by omega, fun _ => by omega⟩
      · have e : mergeV x y v = v := by unfold mergeV; rw [if_neg hc]
        rw [e]
        refine ⟨by omega, by omega, fun hm => ?_⟩
        rcases List.mem_cons.1 hm with hm | hm
        · exact absurd hm.symm hc
        · have := i3 hm; omega
  obtain ⟨k1, k2, k3⟩ := key g h0
  have := k3 hmem
  unfold sumG
  omega

theorem firstJ_some {n : NetN} {l : List (Bool × Int)} {g : List Int} {k : Nat} (h : k < n.weds.length) (hj : joins n l g k = true) (hno : ∀ j, j < k → joins n l g j = false) : firstJ n l g = some k := by
  unfold firstJ
  rw [List.find?_range_eq_some]
  exact ⟨hj, by simpa using h, fun j hj' => by simp [hno j hj']⟩
theorem firstJ_none {n : NetN} {l : List (Bool × Int)} {g : List Int} (hno : ∀ j, j < n.weds.length → joins n l g j = false) : firstJ n l g = none := by
  unfold firstJ
  rw [List.find?_eq_none]
  intro j hj
  rw [List.mem_range] at hj
  simp [hno j hj]
theorem idK_succ {n k : Nat} (h : k < n) : (idK n k).set k (k : Int) = idK n (k + 1) := by
  apply List.ext_getElem?
  intro j
  rw [List.getElem?_set]
  simp only [idK, List.length_map, List.length_range, List.getElem?_map, List.getElem?_range]
  by_cases e : k = j
  · subst e; simp [h]
  · by_cases hj : j < n
    · by_cases h1 : j < k
      · simp [e, hj, h1, show j < k + 1 by omega]
      · simp [e, hj, h1, show ¬ j < k + 1 by omega]
    · simp [e, hj]
theorem idK_zero (n : Nat) : ints (idK n 0) = List.replicate n (V.int .i64 0) := by
  apply List.ext_getElem?
  intro j
  by_cases hj : j < n <;> simp [ints, idK, hj, List.getElem?_replicate]
theorem mergeK_zero (g : List Int) (x y : Int) : mergeK g x y 0 = g := by simp [mergeK]
theorem mergeK_all (g : List Int) (x y : Int) : mergeK g x y g.length = mergeG g x y := by simp [mergeK, mergeG]
theorem mergeK_len (g : List Int) (x y : Int) (k : Nat) : (mergeK g x y k).length = g.length := by simp [mergeK]; omega
theorem mergeK_at {g : List Int} {x y : Int} {k : Nat} (h : k < g.length) : (mergeK g x y k)[k]'(by rw [mergeK_len]; exact h) = g[k] := by
  unfold mergeK
  rw [List.getElem_append_right (by simp; omega)]
  simp [show min k g.length = k by omega]
theorem mergeK_set {g : List Int} {x y : Int} {k : Nat} (h : k < g.length) : (mergeK g x y k).set k (mergeV x y g[k]) = mergeK g x y (k + 1) := by
  unfold mergeK
  have hk : k - ((g.take k).map (mergeV x y)).length = 0 := by simp; omega
  rw [List.set_append_right _ _ (by simp; omega), hk, List.drop_eq_getElem_cons h, List.set_cons_zero, List.take_succ_eq_append_getElem h, List.map_append, List.append_assoc]
  rfl
theorem mergeK_same {g : List Int} {x y : Int} {k : Nat} (h : k < g.length) (hn : g[k] ≠ maxI x y) : mergeK g x y (k + 1) = mergeK g x y k := by
  have e : mergeV x y g[k] = g[k] := by unfold mergeV; rw [if_neg hn]
  rw [← mergeK_set h, e]
  have := mergeK_at (x := x) (y := y) h
  conv => lhs; rw [← this]
  exact List.set_getElem_self _

def grS (n : NetN) (l : List (Bool × Int)) (sl : List (Nat × V)) (xs : List Int) (nx : Nat) : St :=
  ⟨sl ++ [(5, .obj 80 n.subs.length), (2, .ptr 0 1 0 0), (1, .sl 2 (bondsV l))], [(80, ⟨.arr, 3, 1, ints xs⟩), (0, ⟨.box, 26, 6, [netV n]⟩)], nx, [], 76, 0, []⟩
def grG (n : NetN) (l : List (Bool × Int)) (p : List Int × Nat) : St := grS n l [] p.1 2048
def grI (n : NetN) (l : List (Bool × Int)) (p : List Int × Nat) : Prop := GrOk n p.1 ∧ sumG p.1 ≤ p.2 ∧ groupsN n l = grF n l p.2 p.1
theorem gints_set (l : List Int) (k : Nat) (x : Int) : (ints l).set k (.int .i64 x) = ints (l.set k x) := by simp [ints, List.map_set]
theorem pures_rep (n : Nat) : pures (List.replicate n (V.int .i64 0)) := by
  induction n with
  | zero => simp [pures]
  | succ n ih => simp [List.replicate_succ, pures, V.pure, ih]
set_option maxHeartbeats 4000000 in
theorem groups_spec (n : NetN) (l : List (Bool × Int)) (hn : NetOk n) (hl : l.length = n.weds.length) : FnD Tryz.prog 46 [netV n, .sl 2 (bondsV l)] (.sl 1 (ints (groupsN n l))) := by
  have hp1 := sits_pure n.sites
  have hp2 := subs_pure n.subs
  have hp3 := weds_pure n.weds
  have hpb := bonds_pure l
  have hbl : (bondsV l).length = l.length := by simp [bondsV]
  have hnv : netV n = .agg [.sl 12 (n.sites.map sitV), .sl 2 (n.subs.map subV), .sl 4 (n.weds.map wedV), .int .i64 n.low, .int .i64 n.high, .int .i64 n.step] := rfl
  have hwk : ∀ k, ∀ h : k < n.weds.length, 0 ≤ n.weds[k].a ∧ n.weds[k].a < n.weds[k].b ∧ n.weds[k].b < n.subs.length := fun k h => by
    have := hn.2.2.2.2.2 _ (List.getElem_mem h)
    exact ⟨this.1, this.2.1, this.2.2.1⟩
  rw [hnv]
  refine fnD_of mixed Tryz.func46 rfl rfl (by simp [Tryz.ntmps46]) fun hwf E => ?_
  simp (disch := omega) [go_sem] at hwf
  have hs6 : n.subs.length ≤ 6 := hn.2.2.1.1.2
  have hpr := pures_rep n.subs.length
  simp (disch := omega) [Tryz.ntmps46, go_sem]
  refine awz_scope3 mixed ⟨rfl, rfl⟩ (grG n l) (grI n l) (fun p => p.2) ?_ ?_
  · simp (disch := omega) [go_sem]
    refine ⟨by omega, ?_⟩
    refine awz_loop mixed (fun k : Nat => grS n l [(19, .int .i64 k), (18, .int .i64 n.subs.length)] (idK n.subs.length k) 1024) (fun k => k ≤ n.subs.length) (fun k => n.subs.length - k) 0 (by omega) ?_ ?_
    · refine Le.mk [(0, some 0), (80, some 80)] [0, 80] ⟨rfl, rfl, rfl⟩ ?_ ?_ ?_ <;> simp [go_sem, grS, netV, hp1, hp2, hp3, hpb, idK_zero, hpr]
    · intro k hk
      simp (disch := omega) [go_sem, grS, netV]
      refine br_of (fun h => ?_) (fun h => ?_) <;> simp at h
      · have hset := idK_succ h
        have hsb : (ints (idK n.subs.length k)).set k (.int .i64 (k : Int)) = ints (idK n.subs.length (k + 1)) := by rw [gints_set, hset]
        have hnt := nth_ints (l := idK n.subs.length k) (k := k) (by rw [idK_len]; exact h)
        simp (disch := omega) [go_sem, ints_len, idK_len, hnt]
        refine ⟨h, round_of (k + 1) (by omega) (by omega) (Le.mk [(0, some 0), (80, some 80)] [0, 80] ⟨rfl, rfl, rfl⟩ ?_ ?_ ?_)⟩ <;> simp [go_sem, grS, netV, hp1, hp2, hp3, hpb, hsb, ints_pure]
      · have hkl : k = n.subs.length := by omega
        subst hkl
        simp (disch := omega) [go_sem]
        refine start_of (idK n.subs.length n.subs.length, sumG (idK n.subs.length n.subs.length)) ⟨GrOk.id n, Nat.le_refl _, rfl⟩ (Le.mk [(0, some 0), (80, some 80)] [0, 80] ⟨rfl, rfl, rfl⟩ ?_ ?_ ?_) <;> simp [go_sem, grG, grS, netV, hp1, hp2, hp3, hpb, ints_pure]
  · rintro ⟨g, f⟩ ⟨hg, hf, hgr⟩
    simp only at hg hf hgr
    have hgl := hg.len
    simp (disch := omega) [go_sem, grG, grS, netV]
    refine awz_loop mixed (fun k : Nat => grS n l [(30, .int .i64 k), (29, .int .i64 n.weds.length), (28, .sl 4 (n.weds.map wedV))] g 4096) (fun k => k ≤ n.weds.length ∧ ∀ j, j < k → joins n l g j = false) (fun k => n.weds.length - k) 0 ⟨by omega, fun j h => by omega⟩ ?_ ?_
    · refine Le.mk [(0, some 0), (80, some 80)] [0, 80] ⟨rfl, rfl, rfl⟩ ?_ ?_ ?_ <;> simp [go_sem, grS, netV, hp1, hp2, hp3, hpb, ints_pure]
    · rintro k ⟨hk, hno⟩
      simp (disch := omega) [go_sem, grS, netV]
      refine br_of (fun h => ?_) (fun h => ?_) <;> simp at h
      · have hw := hwk k h
        have hgw : nth (n.weds.map wedV) k = wedV n.weds[k] := nth_map h
        have ha : aAt n k = n.weds[k].a.toNat := by simp [aAt, h]
        have hb : bAt n k = n.weds[k].b.toNat := by simp [bAt, h]
        have hkl : k < l.length := by omega
        have hgb : nth (bondsV l) k = bondV l[k] := nth_map hkl
        have ht : tog l k = l[k].1 := by simp [tog, hkl]
        have hJ : joins n l g k = (tog l k && decide (g.getD (aAt n k) 0 ≠ g.getD (bAt n k) 0)) := rfl
        generalize n.weds[k] = w at *
        obtain ⟨wa, wb, wv, wo⟩ := w
        simp only at hw ha hb
        obtain ⟨a, rfl⟩ := Int.eq_ofNat_of_zero_le hw.1
        obtain ⟨b, rfl⟩ := Int.eq_ofNat_of_zero_le (show 0 ≤ wb by omega)
        have hal : a < g.length := by omega
        have hbl2 : b < g.length := by omega
        have hga : nth (ints g) a = .int .i64 g[a] := nth_ints hal
        have hgbb : nth (ints g) b = .int .i64 g[b] := nth_ints hbl2
        rw [ha, hb, Int.toNat_natCast, Int.toNat_natCast] at hJ
        rw [show g.getD a 0 = g[a] by simp [hal], show g.getD b 0 = g[b] by simp [hbl2], ht] at hJ
        have hiw := ints_pure wo
        simp (disch := omega) [go_sem, h, hgw, wedV, hga, hgbb, ints_len, hgl, hbl, hgb, bondV]
        refine ⟨by omega, by omega, .inl (by kernel_rfl), ?_⟩
        refine ⟨hkl, ?_⟩
        refine br_of (fun hc => ?_) (fun hc => ?_) <;> simp at hc
        · obtain ⟨hc1, hc2⟩ := hc
          have hjt : joins n l g k = true := by rw [hJ]; simp [hc1, hc2]
          have hfs := firstJ_some h hjt hno
          simp (disch := omega) [go_sem]
          refine ⟨by rw [ints_len]; exact hgl.symm, ?_⟩
          refine awz_loop mixed (fun m : Nat => grS n l [(57, .int .i64 m), (56, .int .i64 n.subs.length), (55, .obj 80 n.subs.length), (30, .int .i64 k), (29, .int .i64 n.weds.length), (28, .sl 4 (n.weds.map wedV)), (10, .int .i64 g[b]), (9, .int .i64 g[a])] (mergeK g g[a] g[b] m) 8192) (fun m => m ≤ n.subs.length) (fun m => n.subs.length - m) 0 (by omega) ?_ ?_
          · refine Le.mk [(0, some 0), (80, some 80)] [0, 80] ⟨rfl, rfl, rfl⟩ ?_ ?_ ?_ <;> simp [go_sem, grS, netV, hp1, hp2, hp3, hpb, ints_pure, mergeK_zero]
          · intro m hm
            simp (disch := omega) [go_sem, grS, netV]
            refine br_of (fun h3 => ?_) (fun h3 => ?_) <;> simp at h3
            · have hmg : m < g.length := by omega
              have hmk := mergeK_at (x := g[a]) (y := g[b]) hmg
              have hnt := nth_ints (l := mergeK g g[a] g[b] m) (k := m) (by rw [mergeK_len]; exact hmg)
              rw [hmk] at hnt
              simp (disch := omega) [go_sem, ints_len, mergeK_len, hnt, hgl]
              refine ⟨h3, br_of (fun h4 => ?_) (fun h4 => ?_)⟩ <;> simp at h4
              · have hset := mergeK_set (x := g[a]) (y := g[b]) hmg
                have hmv : mergeV g[a] g[b] g[m] = minI g[a] g[b] := if_pos h4
                rw [hmv] at hset
                have hsb : (ints (mergeK g g[a] g[b] m)).set m (.int .i64 (minI g[a] g[b])) = ints (mergeK g g[a] g[b] (m + 1)) := by rw [gints_set, hset]
                unfold minI at hsb
                simp (disch := omega) [go_sem, ints_len, mergeK_len, hgl, hnt]
                refine ⟨h3, round_of (m + 1) (by omega) (by omega) (Le.mk [(0, some 0), (80, some 80)] [0, 80] ⟨rfl, rfl, rfl⟩ ?_ ?_ ?_)⟩ <;> simp [go_sem, grS, netV, hp1, hp2, hp3, hpb, ints_pure, hsb]
              · have hset := mergeK_same (x := g[a]) (y := g[b]) hmg h4
                simp (disch := omega) [go_sem]
                refine round_of (m + 1) (by omega) (by omega) (Le.mk [(0, some 0), (80, some 80)] [0, 80] ⟨rfl, rfl, rfl⟩ ?_ ?_ ?_) <;> simp [go_sem, grS, netV, hp1, hp2, hp3, hpb, ints_pure, hset]
            · have hml : m = g.length := by omega
              subst hml
              rw [mergeK_all]
              simp (disch := omega) [go_sem]
              have hok := hg.merge hal hbl2 hc2
              have h0 : ∀ v ∈ g, 0 ≤ v := fun v hv => by
                obtain ⟨i, hi, rfl⟩ := List.getElem_of_mem hv
                exact (hg.le i hi).1
              have hmm : minI g[a] g[b] < maxI g[a] g[b] ∧ 0 ≤ minI g[a] g[b] ∧ (maxI g[a] g[b] = g[a] ∨ maxI g[a] g[b] = g[b]) := by
                have := (hg.le a hal).1
                have := (hg.le b hbl2).1
                unfold minI maxI; split <;> split <;> omega
              have hmem : maxI g[a] g[b] ∈ g := by
                rcases hmm.2.2 with e | e <;> rw [e] <;> exact List.getElem_mem _
              have hlt := sum_merge h0 hmm.1 hmm.2.1 hmem
              obtain ⟨f', rfl⟩ : ∃ f', f = f' + 1 := ⟨f - 1, by omega⟩
              have hgr2 : groupsN n l = grF n l f' (mergeG g g[a] g[b]) := by
                rw [hgr, grF, hfs]
                simp only [ha, hb]
                rw [show g.getD (Int.toNat (a : Nat)) 0 = g[a] by simp [hal], show g.getD (Int.toNat (b : Nat)) 0 = g[b] by simp [hbl2]]
              refine jump_of (mergeG g g[a] g[b], f') ⟨⟨hok, by simp only; omega, hgr2⟩, by simp only; omega⟩ (Le.mk [(0, some 0), (80, some 80)] [0, 80] ⟨rfl, rfl, rfl⟩ ?_ ?_ ?_) <;> simp [go_sem, grG, grS, netV, hp1, hp2, hp3, hpb, ints_pure]
        · have hjf : joins n l g k = false := by
            rw [hJ]
            cases hq : l[k].1 <;> simp
            exact hc hq
          simp (disch := omega) [go_sem]
          refine round_of (k + 1) ⟨by omega, fun j hj => ?_⟩ (by omega) (Le.mk [(0, some 0), (80, some 80)] [0, 80] ⟨rfl, rfl, rfl⟩ ?_ ?_ ?_)
          · by_cases e : j = k
            · rw [e]; exact hjf
            · exact hno j (by omega)
          all_goals simp [go_sem, grS, netV, hp1, hp2, hp3, hpb, ints_pure]
      · have hkl : k = n.weds.length := by omega
        subst hkl
        have hfn := firstJ_none hno
        have hres : groupsN n l = g := by
          rw [hgr]
          cases f with
          | zero => rfl
          | succ f => rw [grF, hfn]
        rw [hres]
        simp (disch := omega) [go_sem]
        exact ⟨by rw [ints_len]; exact hgl.symm, argsLe_self (ints_pure g)⟩
end Go.Proofs.YtpijmanjjhpkiaaGreatDoor

namespace Go.Proofs.YtpijmanjjhpkiaaGreatDoor
open Go.AM Go.RowKit
set_option maxRecDepth 100000

theorem bonds_len (l : List (Bool × Int)) : (bondsV l).length = l.length := by simp [bondsV]
theorem nth_bonds {l : List (Bool × Int)} {k : Nat} (h : k < l.length) : nth (bondsV l) k = bondV l[k] := nth_map h
def findB (l : List (Bool × Int)) (q : Bool × Int → Bool) : Int := match l.findIdx? q with | some i => i | none => -1
theorem indexFunc_bonds (l : List (Bool × Int)) (g : FuncId) (fst caps : List V) (q : Bool × Int → Bool) (hpf : pures fst) (hpc : pures caps) (hq : ∀ x ∈ l, FnD Tryz.prog g (fst ++ [bondV x] ++ caps) (.bool (q x))) :
    FnD Tryz.prog 139 [.sl 2 (bondsV l), .func (.func g) fst caps] (.int .i64 (findB l q)) := by
  have yes : ∀ k (h : k < l.length), (∀ j (hj : j < l.length), j < k → q l[j] = false) → q l[k] = true → (findB l q) = k := by
    intro k h hno hk
    have : l.findIdx? q = some k := by
      rw [List.findIdx?_eq_some_iff_getElem]
      exact ⟨h, hk, fun j hj => by simp [hno j (by omega) hj]⟩
    simp [findB, this]
  have no : (∀ j (hj : j < l.length), q l[j] = false) → (findB l q) = -1 := by
    intro hno
    have : l.findIdx? q = none := by
      rw [List.findIdx?_eq_none_iff]
      intro x hx
      obtain ⟨j, hj, rfl⟩ := List.getElem_of_mem hx
      exact hno j hj
    simp [findB, this]
  generalize (findB l q) = res at *
  refine fnD_of mixed Tryz.func139 rfl rfl (by simp [Tryz.ntmps139]) fun hwf E => ?_
  simp (disch := omega) [go_sem, bonds_len] at hwf
  simp (disch := omega) [Tryz.ntmps139, go_sem, bonds_len]
  refine awz_loop mixed (fun k : Nat => ⟨[(0, .sl 2 (bondsV l)), (1, .func (.func g) fst caps), (7, .int .i64 l.length), (8, .int .i64 k), (4, .int .i64 0)], [], 1024, [], 19, 0, []⟩)
    (fun k => k ≤ l.length ∧ ∀ j (hj : j < l.length), j < k → q l[j] = false) (fun k => l.length - k) 0 (by simp) ?_ ?_
  · refine Le.mk [] [] ⟨rfl, rfl, rfl⟩ ?_ ?_ ?_ <;> simp [go_sem, vsLe_self, hpf, hpc, bonds_pure]
  · rintro k ⟨hk, hno⟩
    simp (disch := omega) [go_sem]
    refine br_of (fun h => ?_) (fun h => ?_) <;> simp at h
    · have hm : l[k] ∈ l := List.getElem_mem h
      have hgb := nth_bonds h
      simp (disch := omega) [go_sem, h, bonds_len, hgb, bondV]
      refine callK_data (hq _ hm) [] ?_ (.inl rfl) (by simp [go_sem]) fun hw => ?_
      · simp (disch := omega) [go_sem]
        have ha := argsLe_self (hp := AM.look []) (B := fun i => i ∈ ([] : List Nat)) (n := 8) (xs := fst ++ [bondV l[k]] ++ caps) (by simp [go_sem, hpf, hpc, bondV])
        simpa [AM.look, bondV] using ha
      · simp (disch := omega) [go_sem]
        refine br_of (fun h2 => ?_) (fun h2 => ?_)
        · simp (disch := omega) [go_sem]
          exact (yes k h hno h2).symm
        · simp (disch := omega) [go_sem]
          refine round_of (k + 1) ⟨h, fun j hj hk' => ?_⟩ (by omega) (Le.mk [] [] ⟨rfl, rfl, rfl⟩ ?_ ?_ ?_)
          · by_cases e : j = k
            · subst e; exact h2
            · exact hno j hj (by omega)
          all_goals simp (disch := omega) [go_sem, vsLe_self, hpf, hpc, bonds_pure]
    · simp (disch := omega) [go_sem]
      exact (no fun j hj => hno j hj (by omega)).symm
theorem findB_any (l : List (Bool × Int)) (q : Bool × Int → Bool) : decide ((findB l q) ≥ 0) = l.any q := by
  unfold findB
  cases h : l.findIdx? q with
  | none =>
    have := List.findIdx?_eq_none_iff.1 h
    have : l.any q = false := by simpa using this
    simp [this]
  | some i =>
    obtain ⟨hi, hp, _⟩ := List.findIdx?_eq_some_iff_getElem.1 h
    have : l.any q = true := List.any_eq_true.2 ⟨_, List.getElem_mem hi, hp⟩
    simp [this]
theorem containsFunc_bonds (l : List (Bool × Int)) (g : FuncId) (fst caps : List V) (q : Bool × Int → Bool) (hpf : pures fst) (hpc : pures caps) (hq : ∀ x ∈ l, FnD Tryz.prog g (fst ++ [bondV x] ++ caps) (.bool (q x))) :
    FnD Tryz.prog 93 [.sl 2 (bondsV l), .func (.func g) fst caps] (.bool (l.any q)) := by
  refine fnD_of mixed Tryz.func93 rfl rfl (by simp [Tryz.ntmps93]) fun hwf E => ?_
  simp (disch := omega) [Tryz.ntmps93, go_sem] at hwf ⊢
  refine callK_data (indexFunc_bonds l g fst caps q hpf hpc hq) [] ?_ (.inl rfl) (by simp [go_sem]) fun hw => ?_
  · simp [go_sem, hpf, hpc, bonds_pure]
  · simp (disch := omega) [go_sem]
    simpa using findB_any l q


theorem bonded1_spec (b : Bool × Int) : FnD Tryz.prog 94 [bondV b] (.bool (!inM b.2)) := by
  have hm := may_spec b
  obtain ⟨t, m⟩ := b
  have hbv : bondV (t, m) = .agg [.bool t, .int .i64 m] := rfl
  rw [hbv] at hm ⊢
  refine fnD_of mixed Tryz.func94 rfl rfl (by simp [Tryz.ntmps94]) fun hwf E => ?_
  simp (disch := omega) [Tryz.ntmps94, go_sem]
  refine callK_bool hm [] (by simp [go_sem]) (fun h1 => ?_) (fun h1 => ?_) <;> simp (disch := omega) [go_sem, h1]
/-- The error of a region, or of bonds. -/
noncomputable def bondedC (n : NetN) (l : List (Bool × Int)) : Int := if NetOk n then if l.length ≠ n.weds.length then 4 else if l.any (fun b => !inM b.2) then 2 else 0 else 60
theorem bonded_spec (n : NetN) (l : List (Bool × Int)) : FnD Tryz.prog 45 [netV n, .sl 2 (bondsV l)] (.int .i64 (bondedC n l)) tabG := by
  have hp1 := sits_pure n.sites
  have hp2 := subs_pure n.subs
  have hp3 := weds_pure n.weds
  have hpb := bonds_pure l
  have hc := ncheck_spec n
  have hnv : netV n = .agg [.sl 12 (n.sites.map sitV), .sl 2 (n.subs.map subV), .sl 4 (n.weds.map wedV), .int .i64 n.low, .int .i64 n.high, .int .i64 n.step] := rfl
  rw [hnv] at hc ⊢
  refine fnD_of mixed Tryz.func45 rfl rfl (by simp [Tryz.ntmps45]) fun hwf E => ?_
  simp (disch := omega) [go_sem, bonds_len] at hwf
  simp (disch := omega) [Tryz.ntmps45, go_sem]
  refine callK_data hc [] (by simp [go_sem, hp1, hp2, hp3]) (.inl rfl) (by simp [go_sem]) (fun _ => ?_) (by simp [tabG, go_sem])
  by_cases hOk : NetOk n
  · rw [netN_ok hOk]
    simp (disch := omega) [go_sem, bonds_len]
    refine br_of (fun h1 => ?_) (fun h1 => ?_) <;> simp at h1
    · have e : bondedC n l = 4 := by unfold bondedC; rw [if_pos hOk, if_pos (by omega)]
      simp (disch := omega) [go_sem, e]
    · simp (disch := omega) [go_sem]
      refine callK_bool (containsFunc_bonds l 94 [] [] (fun b => !inM b.2) (by simp [go_sem]) (by simp [go_sem]) (fun x _ => bonded1_spec x)) [] (by simp [go_sem, hpb]) (fun h2 => ?_) (fun h2 => ?_)
      · have e : bondedC n l = 2 := by unfold bondedC; rw [if_pos hOk, if_neg (by omega), if_pos h2]
        simp (disch := omega) [go_sem, e]
      · have e : bondedC n l = 0 := by unfold bondedC; rw [if_pos hOk, if_neg (by omega), if_neg (by rw [h2]; decide)]
        simp (disch := omega) [go_sem, e]
  · rw [netN_bad hOk]
    simp (disch := omega) [go_sem, bondedC, hOk]
theorem bonded_ok {n : NetN} {l : List (Bool × Int)} (h : bondedC n l = 0) : NetOk n ∧ l.length = n.weds.length ∧ ∀ b ∈ l, inM b.2 = true := by
  unfold bondedC at h
  by_cases h1 : NetOk n
  · rw [if_pos h1] at h
    by_cases h2 : l.length = n.weds.length
    · rw [if_neg (by simpa using h2)] at h
      refine ⟨h1, h2, fun b hb => ?_⟩
      by_cases h3 : l.any (fun b => !inM b.2) = true
      · rw [if_pos h3] at h; omega
      · cases hi : inM b.2 with
        | true => rfl
        | false => exact absurd (List.any_eq_true.2 ⟨b, hb, by simp [hi]⟩) h3
    · rw [if_pos h2] at h; omega
  · rw [if_neg h1] at h; omega

theorem grF_ok {n : NetN} {l : List (Bool × Int)} (hn : NetOk n) : ∀ (f : Nat) (g : List Int), GrOk n g → GrOk n (grF n l f g)
  | 0, g, h => h
  | f + 1, g, h => by
    rw [grF]
    cases hf : firstJ n l g with
    | none => exact h
    | some i =>
      have hi := List.find?_some hf
      have hm := List.mem_of_find?_eq_some hf
      rw [List.mem_range] at hm
      unfold joins at hi
      rw [Bool.and_eq_true, decide_eq_true_eq] at hi
      have hw := hn.2.2.2.2.2 _ (List.getElem_mem hm)
      obtain ⟨w1, w2, w3, _⟩ := hw
      have ha : aAt n i < g.length := by rw [h.len]; simp [aAt, hm]; omega
      have hb : bAt n i < g.length := by rw [h.len]; simp [bAt, hm]; omega
      have ea : g.getD (aAt n i) 0 = g[aAt n i] := by simp [ha]
      have eb : g.getD (bAt n i) 0 = g[bAt n i] := by simp [hb]
      simp only
      rw [ea, eb]
      rw [ea, eb] at hi
      exact grF_ok hn f _ (h.merge ha hb hi.2)
theorem groups_ok {n : NetN} {l : List (Bool × Int)} (hn : NetOk n) : GrOk n (groupsN n l) := grF_ok hn _ _ (GrOk.id n)

/-! the error of cycles -/
noncomputable def cycledC (n : NetN) (cs : List Int) : Int := if cs.length ≠ n.subs.length then 4 else if cs.any (fun c => !decide (c ∈ cycN n (cycK n + 1))) then 2 else 0
theorem cycled_ok {n : NetN} {cs : List Int} (h : cycledC n cs = 0) : cs.length = n.subs.length ∧ ∀ c ∈ cs, c ∈ cycN n (cycK n + 1) := by
  unfold cycledC at h
  by_cases h2 : cs.length = n.subs.length
  · rw [if_neg (by simpa using h2)] at h
    refine ⟨h2, fun b hb => ?_⟩
    by_cases h3 : (cs.any fun c => !decide (c ∈ cycN n (cycK n + 1))) = true
    · rw [if_pos h3] at h; omega
    · by_cases hi : b ∈ cycN n (cycK n + 1)
      · exact hi
      · exact absurd (List.any_eq_true.2 ⟨b, hb, by simp [hi]⟩) h3
  · rw [if_pos h2] at h; omega
theorem cycled1_spec (l : List Int) (x : Int) : FnD Tryz.prog 149 [.int .i64 x, .tptr 1 [.sl 1 (ints l)] 0 0] (.bool (!decide (x ∈ l))) := by
  have hp := ints_pure l
  refine fnD_of mixed Tryz.func149 rfl rfl (by simp [Tryz.ntmps149]) fun hwf E => ?_
  simp (disch := omega) [Tryz.ntmps149, go_sem]
  refine callK_bool (contains_spec l x) [] (by simp [go_sem, hp]) (fun h1 => ?_) (fun h1 => ?_) <;> simp (disch := omega) [go_sem] <;> simpa using h1
theorem cycled_spec (n : NetN) (cs : List Int) (hn : NetOk n) : FnD Tryz.prog 115 [netV n, .sl 1 (ints cs)] (.int .i64 (cycledC n cs)) tabG := by
  have hp1 := sits_pure n.sites
  have hp2 := subs_pure n.subs
  have hp3 := weds_pure n.weds
  have hpb := ints_pure cs
  have hc := cycles_spec n
  have hpc := ints_pure (cycN n (cycK n + 1))
  have hnv : netV n = .agg [.sl 12 (n.sites.map sitV), .sl 2 (n.subs.map subV), .sl 4 (n.weds.map wedV), .int .i64 n.low, .int .i64 n.high, .int .i64 n.step] := rfl
  rw [hnv] at hc ⊢
  refine fnD_of mixed Tryz.func115 rfl rfl (by simp [Tryz.ntmps115]) fun hwf E => ?_
  simp (disch := omega) [go_sem, ints_len] at hwf
  simp (disch := omega) [Tryz.ntmps115, go_sem]
  refine callK_data hc [] (by simp [go_sem, hp1, hp2, hp3]) (.inl rfl) (by simp [go_sem, ints_pure]) (fun _ => ?_) (by simp [tabG, go_sem])
  rw [netN_ok hn, allCyc_ok hn]
  simp (disch := omega) [go_sem, ints_len]
  refine br_of (fun h1 => ?_) (fun h1 => ?_) <;> simp at h1
  · have e : cycledC n cs = 4 := by unfold cycledC; rw [if_pos (by omega)]
    simp (disch := omega) [go_sem, e]
  · simp (disch := omega) [go_sem]
    refine callK_bool (containsFunc_ints cs 149 [] [.tptr 1 [.sl 1 (ints (cycN n (cycK n + 1)))] 0 0] (fun c => !decide (c ∈ cycN n (cycK n + 1))) (by simp [go_sem]) (by simp [go_sem, hpc]) (fun x _ => cycled1_spec _ x)) [112] ?_ (fun h2 => ?_) (fun h2 => ?_)
    · simp [go_sem, hpb, hpc]
    · have e : cycledC n cs = 2 := by unfold cycledC; rw [if_neg (by omega), if_pos h2]
      simp (disch := omega) [go_sem, e]
    · have e : cycledC n cs = 0 := by unfold cycledC; rw [if_neg (by omega), if_neg (by rw [h2]; decide)]
      simp (disch := omega) [go_sem, e]

/-! the cycles by which subs go -/
def comK (g cs : List Int) (i k : Nat) : Int := (List.range k).foldl (fun m j => if g.getD i 0 = g.getD j 0 then maxI m (cs.getD j 0) else m) (cs.getD i 0)
def comL (g cs : List Int) (k : Nat) : List Int := (List.range cs.length).map fun i => if i < k then comK g cs i cs.length else cs.getD i 0
def commonG (g cs : List Int) : List Int := comL g cs cs.length
theorem comK_succ (g cs : List Int) (i k : Nat) : comK g cs i (k + 1) = if g.getD i 0 = g.getD k 0 then maxI (comK g cs i k) (cs.getD k 0) else comK g cs i k := by
  unfold comK; rw [List.range_succ, List.foldl_append]; rfl
theorem comL_len (g cs : List Int) (k : Nat) : (comL g cs k).length = cs.length := by simp [comL]
theorem comL_zero (g cs : List Int) : comL g cs 0 = cs := by
  apply List.ext_getElem (by simp [comL])
  intro i h1 h2
  simp [comL, h2]
theorem comL_start {g cs : List Int} {i : Nat} (h : i < cs.length) : (comL g cs i).set i (comK g cs i 0) = comL g cs i := by
  apply List.ext_getElem (by simp)
  intro j h1 h2
  rw [List.getElem_set]
  by_cases e : i = j
  · subst e; simp [comL, comK]
  · simp [e]
theorem comL_next {g cs : List Int} {i : Nat} (h : i < cs.length) : (comL g cs i).set i (comK g cs i cs.length) = comL g cs (i + 1) := by
  apply List.ext_getElem (by simp [comL])
  intro j h1 h2
  rw [List.getElem_set]
  by_cases e : i = j
  · subst e; simp [comL]
  · have e2 : (j < i + 1) = (j < i) := by simp; omega
    simp [comL, e, e2]
set_option maxHeartbeats 4000000 in
theorem common_spec (n : NetN) (l : List (Bool × Int)) (cs : List Int) (hn : NetOk n) (hl : l.length = n.weds.length) (hc : cs.length = n.subs.length) :
    FnR Tryz.prog 116 [] [netV n, .sl 2 (bondsV l), .sl 1 (ints cs)] [⟨.arr, 3, 1, ints (commonG (groupsN n l) cs)⟩] (.obj 0 cs.length) := by
  have hp1 := sits_pure n.sites
  have hp2 := subs_pure n.subs
  have hp3 := weds_pure n.weds
  have hpb := bonds_pure l
  have hpc := ints_pure cs
  have hgs := groups_spec n l hn hl
  have hgl := (groups_ok (l := l) hn).len
  have hs6 : n.subs.length ≤ 6 := hn.2.2.1.1.2
  have hcl := clone_ints cs (by omega)
  generalize groupsN n l = g at *
  have hpg := ints_pure g
  have hnv : netV n = .agg [.sl 12 (n.sites.map sitV), .sl 2 (n.subs.map subV), .sl 4 (n.weds.map wedV), .int .i64 n.low, .int .i64 n.high, .int .i64 n.step] := rfl
  rw [hnv] at hgs ⊢
  refine fnR_of mixed Tryz.func116 rfl rfl (by simp [Tryz.ntmps116]) (by simp) fun hwf E => ?_
  simp (disch := omega) [go_sem, ints_len] at hwf
  simp (disch := omega) [Tryz.ntmps116, go_sem]
  refine callK_data hgs [] (by simp [go_sem, hp1, hp2, hp3, hpb]) (.inl rfl) (by simp [go_sem, hpg]) (fun _ => ?_)
  simp (disch := omega) [go_sem]
  refine callK_ref hcl [] [] [] [] ?_ ?_ ?_ (.inl ⟨rfl, .inl rfl⟩) (fun _ => ?_)
  · simp [go_sem, hpc]
  · simp [go_sem]
  · simp [go_sem]
  simp (disch := omega) [go_sem]
  refine ⟨(ints_len cs).symm, ?_⟩
  refine awz_loop mixed (fun k : Nat => ⟨[(19, .int .i64 k), (18, .int .i64 cs.length), (8, .obj 112 cs.length), (7, .sl 1 (ints g)), (2, .sl 1 (ints cs))], [(112, ⟨.arr, 3, 1, ints (comL g cs k)⟩)], 1024, [], 50, 0, []⟩)
    (fun k => k ≤ cs.length) (fun k => cs.length - k) 0 (by omega) ?_ ?_
  · refine Le.mk [(112, some 112)] [112] ⟨rfl, rfl, rfl⟩ ?_ ?_ ?_ <;> simp [go_sem, hpg, hpc, comL_zero]
  · intro k hk
    simp (disch := omega) [go_sem]
    refine br_of (fun h => ?_) (fun h => ?_) <;> simp at h
    · simp (disch := omega) [go_sem]
      refine awz_loop mixed (fun m : Nat => ⟨[(24, .int .i64 m), (23, .int .i64 cs.length), (22, .sl 1 (ints cs)), (19, .int .i64 k), (18, .int .i64 cs.length), (9, .int .i64 k), (8, .obj 112 cs.length), (7, .sl 1 (ints g)), (2, .sl 1 (ints cs))], [(112, ⟨.arr, 3, 1, ints ((comL g cs k).set k (comK g cs k m))⟩)], 2048, [], 50, 0, []⟩)
        (fun m => m ≤ cs.length) (fun m => cs.length - m) 0 (by omega) ?_ ?_
      · refine Le.mk [(112, some 112)] [112] ⟨rfl, rfl, rfl⟩ ?_ ?_ ?_ <;> simp [go_sem, hpg, hpc, comL_start h, ints_len, ints_pure]
      · intro m hm
        simp (disch := omega) [go_sem, ints_len]
        refine br_of (fun h2 => ?_) (fun h2 => ?_) <;> simp at h2
        · have hk1 : k < g.length := by omega
          have hm1 : m < g.length := by omega
          have hgk := nth_ints hk1
          have hgm := nth_ints hm1
          have hcm := nth_ints h2
          have hsucc := comK_succ g cs k m
          rw [show g.getD k 0 = g[k] by simp [hk1], show g.getD m 0 = g[m] by simp [hm1], show cs.getD m 0 = cs[m] by simp [h2]] at hsucc
          have hck : k < ((comL g cs k).set k (comK g cs k m)).length := by simp [comL_len]; omega
          have hat := nth_ints hck
          rw [List.getElem_set_self] at hat
          have hset : ∀ v : Int, (ints ((comL g cs k).set k (comK g cs k m))).set k (.int .i64 v) = ints ((comL g cs k).set k v) := fun v => by rw [gints_set, List.set_set]
          have hln : ((comL g cs k).set k (comK g cs k m)).length = cs.length := by simp [comL_len]
          generalize hX : (comL g cs k).set k (comK g cs k m) = X at *
          simp (disch := omega) [go_sem, ints_len, hgk, hgm, hcm]
          refine ⟨by omega, by omega, by omega, .inl (by kernel_rfl), ?_⟩
          refine br_of (fun h3 => ?_) (fun h3 => ?_) <;> simp at h3
          · rw [if_pos h3] at hsucc
            unfold maxI at hsucc
            simp (disch := omega) [go_sem, ints_len, hat, hln, hcm]
            refine ⟨h, round_of (m + 1) (by omega) (by omega) (Le.mk [(112, some 112)] [112] ⟨rfl, rfl, rfl⟩ ?_ ?_ ?_)⟩ <;> simp [go_sem, hpg, hpc, ints_pure, hsucc, hset]
          · rw [if_neg h3] at hsucc
            simp (disch := omega) [go_sem]
            refine round_of (m + 1) (by omega) (by omega) (Le.mk [(112, some 112)] [112] ⟨rfl, rfl, rfl⟩ ?_ ?_ ?_) <;> simp [go_sem, hpg, hpc, ints_pure, hsucc, hX]
        · have hml : m = cs.length := by omega
          subst hml
          simp (disch := omega) [go_sem]
          refine round_of (k + 1) (by omega) (by omega) (Le.mk [(112, some 112)] [112] ⟨rfl, rfl, rfl⟩ ?_ ?_ ?_) <;> simp [go_sem, hpg, hpc, comL_next h, ints_pure]
    · have hkl : k = cs.length := by omega
      subst hkl
      simp (disch := omega) [go_sem]
      refine Le.mk [(0, some 112)] [112] ⟨rfl, rfl, rfl⟩ ?_ ?_ ?_ <;> simp [go_sem, commonG, ints_pure]

/-! what is asked -/
noncomputable def groupsL (n : NetN) (l : List (Bool × Int)) : List Int := if bondedC n l = 0 then groupsN n l else []
theorem Groups_spec (n : NetN) (l : List (Bool × Int)) : FnD Tryz.prog 22 [netV n, .sl 2 (bondsV l)] (.tup [.sl 1 (ints (groupsL n l)), .int .i64 (bondedC n l)]) tabG := by
  have hp1 := sits_pure n.sites
  have hp2 := subs_pure n.subs
  have hp3 := weds_pure n.weds
  have hpb := bonds_pure l
  have hc := bonded_spec n l
  have hgs := groups_spec n l
  have hpg := ints_pure (groupsN n l)
  have hnv : netV n = .agg [.sl 12 (n.sites.map sitV), .sl 2 (n.subs.map subV), .sl 4 (n.weds.map wedV), .int .i64 n.low, .int .i64 n.high, .int .i64 n.step] := rfl
  rw [hnv] at hc hgs ⊢
  refine fnD_of mixed Tryz.func22 rfl rfl (by simp [Tryz.ntmps22]) fun hwf E => ?_
  simp (disch := omega) [Tryz.ntmps22, go_sem]
  refine callK_data hc [] (by simp [go_sem, hp1, hp2, hp3, hpb]) (.inl rfl) (by simp [go_sem]) (fun _ => ?_) (by simp [tabG, go_sem])
  simp (disch := omega) [go_sem]
  refine br_of (fun h => ?_) (fun h => ?_) <;> simp at h
  · simp (disch := omega) [go_sem, groupsL, h, ints]
  · obtain ⟨hn, hl, _⟩ := bonded_ok h
    have e : groupsL n l = groupsN n l := by unfold groupsL; rw [if_pos h]
    rw [e, h]
    simp (disch := omega) [go_sem]
    refine callK_data (hgs hn hl) [] (by simp [go_sem, hp1, hp2, hp3, hpb]) (.inl rfl) (by simp [go_sem, hpg]) (fun _ => ?_)
    simp (disch := omega) [go_sem, hpg]
noncomputable def cyclesC (n : NetN) (l : List (Bool × Int)) (cs : List Int) : Int := if bondedC n l = 0 then cycledC n cs else bondedC n l
noncomputable def cyclesL (n : NetN) (l : List (Bool × Int)) (cs : List Int) : List Int := if cyclesC n l cs = 0 then commonG (groupsN n l) cs else []
end Go.Proofs.YtpijmanjjhpkiaaGreatDoor

namespace Go.Proofs.YtpijmanjjhpkiaaGreatDoor
open Go.AM Go.RowKit
set_option maxRecDepth 100000

/-! the map of the subs whose beginning is known -/
def kmV (kn : List Bool) : List V := (List.range kn.length).map fun (i : Nat) => .tup [.int .i64 (i : Int), .bool (kn.getD i false)]
theorem mfind_range (f : Nat → V) (a : Nat) : ∀ (n s : Nat), mfind (.int .i64 (a : Int)) ((List.range' s n).map fun (i : Nat) => .tup [.int .i64 (i : Int), f i]) = some (if s ≤ a ∧ a < s + n then some (f a) else none)
  | 0, s => by simp [mfind]
  | n + 1, s => by
    rw [List.range'_succ, List.map_cons]
    by_cases h : a = s
    · subst h
      simp [mfind, keyB]
    · have h2 : ((s : Int) == (a : Int)) = false := by simp; omega
      have h2' : ((a : Int) == (s : Int)) = false := by simp; omega
      simp only [mfind, keyB, if_true, h2, h2', mfind_range f a n (s + 1)]
      congr 1
      by_cases h3 : s + 1 ≤ a ∧ a < s + 1 + n
      · rw [if_pos h3, if_pos (by omega)]
      · rw [if_neg h3, if_neg (by omega)]
theorem mfind_km {kn : List Bool} {a : Nat} (h : a < kn.length) : mfind (.int .i64 (a : Int)) (kmV kn) = some (some (.bool (kn.getD a false))) := by
  unfold kmV
  rw [List.range_eq_range', mfind_range (fun i => .bool (kn.getD i false)) a kn.length 0, if_pos (by omega)]
theorem mput_range (f g : Nat → V) (a : Nat) (v : V) : ∀ (n s : Nat), s ≤ a → a < s + n → (∀ i, i ≠ a → g i = f i) → g a = v →
    mput (.int .i64 (a : Int)) v ((List.range' s n).map fun (i : Nat) => .tup [.int .i64 (i : Int), f i]) = some ((List.range' s n).map fun (i : Nat) => .tup [.int .i64 (i : Int), g i])
  | 0, s, h1, h2, hg, hv => by omega
  | n + 1, s, h1, h2, hg, hv => by
    rw [List.range'_succ, List.map_cons, List.map_cons]
    by_cases h : a = s
    · subst h
      have hrest : ((List.range' (a + 1) n).map fun (i : Nat) => V.tup [.int .i64 (i : Int), f i]) = (List.range' (a + 1) n).map fun (i : Nat) => V.tup [.int .i64 (i : Int), g i] := by
        apply List.map_congr_left
        intro i hi
        rw [List.mem_range'_1] at hi
        rw [hg i (by omega)]
      simp [mput, keyB, hv, hrest]
    · have h2' : ((a : Int) == (s : Int)) = false := by simp; omega
      have h2'' : ((s : Int) == (a : Int)) = false := by simp; omega
      simp only [mput, keyB, if_true, h2', h2'', mput_range f g a v n (s + 1) (by omega) (by omega) hg hv, Option.map_some, hg s (by omega)]
theorem put_km {kn : List Bool} {a : Nat} (h : a < kn.length) : mput (.int .i64 (a : Int)) (.bool true) (kmV kn) = some (kmV (kn.set a true)) := by
  unfold kmV
  rw [List.length_set, List.range_eq_range']
  refine mput_range (fun i => .bool (kn.getD i false)) (fun i => .bool ((kn.set a true).getD i false)) a _ kn.length 0 (by omega) (by omega) (fun i hi => ?_) ?_
  · simp only [List.getD_eq_getElem?_getD, List.getElem?_set_ne (Ne.symm hi)]
  · simp [List.getD_eq_getElem?_getD, h]
theorem km_len (kn : List Bool) : (kmV kn).length = kn.length := by simp [kmV]
theorem mput_new (f : Nat → V) (a : Nat) (v : V) : ∀ (n s : Nat), s + n ≤ a → mput (.int .i64 (a : Int)) v ((List.range' s n).map fun (i : Nat) => .tup [.int .i64 (i : Int), f i]) = some (((List.range' s n).map fun (i : Nat) => .tup [.int .i64 (i : Int), f i]) ++ [.tup [.int .i64 (a : Int), v]])
  | 0, s, h => by simp [mput]
  | n + 1, s, h => by
    rw [List.range'_succ, List.map_cons]
    have h2' : ((a : Int) == (s : Int)) = false := by simp; omega
    have h2'' : ((s : Int) == (a : Int)) = false := by simp; omega
    simp only [mput, keyB, if_true, h2', h2'', mput_new f a v n (s + 1) (by omega), Option.map_some, List.cons_append]
theorem new_km (kn : List Bool) (b : Bool) : mput (.int .i64 (kn.length : Int)) (.bool b) (kmV kn) = some (kmV (kn ++ [b])) := by
  unfold kmV
  rw [List.range_eq_range', mput_new (fun i => .bool (kn.getD i false)) kn.length (.bool b) kn.length 0 (by omega)]
  rw [← List.range_eq_range']
  congr 1
  apply List.ext_getElem?
  intro j
  by_cases h : j < kn.length
  · rw [List.getElem?_append_left (by simpa using h)]
    simp [h, show j < kn.length + 1 by omega, List.getElem?_append_left h, List.getD_eq_getElem?_getD]
  · rw [List.getElem?_append_right (by simpa using h)]
    by_cases h2 : j = kn.length
    · subst h2
      simp [List.getD_eq_getElem?_getD]
    · simp [show ¬ j < kn.length + 1 by omega, show j - kn.length ≠ 0 by omega]
/-! beginnings -/
structure BgSt where
  out : List Int
  kn : List Bool
  more : Bool
def wedAt (n : NetN) (i : Nat) : WedN := n.weds.getD i ⟨0, 0, 0, []⟩
/-- One wed of a pass. -/
def bgStep (n : NetN) (l : List (Bool × Int)) (votes : List (Int × Int × Int)) (all : List Int) (s : BgSt) (i : Nat) : BgSt :=
  if tog l i = false ∨ s.kn.getD (aAt n i) false = s.kn.getD (bAt n i) false then s
  else
    let by_ := (wedAt n i).offsets.getD ((votes.getD i (0, 0, 0)).1).toNat 0
    let c := all.getD (aAt n i) 1
    ⟨if s.kn.getD (aAt n i) false then s.out.set (bAt n i) ((s.out.getD (aAt n i) 0 + by_).tmod c) else s.out.set (aAt n i) ((s.out.getD (bAt n i) 0 - by_.tmod c + c).tmod c),
      (s.kn.set (aAt n i) true).set (bAt n i) true, true⟩
def bgPass (n : NetN) (l : List (Bool × Int)) (votes : List (Int × Int × Int)) (all : List Int) (s : BgSt) (k : Nat) : BgSt := (List.range k).foldl (bgStep n l votes all) s
theorem bgPass_succ (n : NetN) (l : List (Bool × Int)) (votes : List (Int × Int × Int)) (all : List Int) (s : BgSt) (k : Nat) : bgPass n l votes all s (k + 1) = bgStep n l votes all (bgPass n l votes all s k) k := by
  unfold bgPass; rw [List.range_succ, List.foldl_append]; rfl
def bgF (n : NetN) (l : List (Bool × Int)) (votes : List (Int × Int × Int)) (all : List Int) : Nat → BgSt → BgSt
  | 0, s => s
  | f + 1, s => if s.more then bgF n l votes all f (bgPass n l votes all ⟨s.out, s.kn, false⟩ n.weds.length) else s

/-- Beginnings that may be. -/
structure BgOk (n : NetN) (s : BgSt) : Prop where
  ol : s.out.length = n.subs.length
  kl : s.kn.length = n.subs.length
  le : ∀ i, 0 ≤ s.out.getD i 0 ∧ s.out.getD i 0 ≤ 1048576
def fcount (s : BgSt) : Nat := s.kn.count false
def bmeas (s : BgSt) : Nat := fcount s + (if s.more then 1 else 0)
theorem count_set_true {l : List Bool} {a : Nat} (h : a < l.length) : (l.set a true).count false + (if l.getD a false = false then 1 else 0) = l.count false := by
  rw [List.count_set h]
  have e : l.getD a false = l[a] := by simp [h]
  rw [e]
  have hp : l[a] = false → 0 < l.count false := fun hf => List.count_pos_iff.2 (by rw [← hf]; exact List.getElem_mem h)
  cases hl : l[a] with
  | true => simp
  | false => have := hp hl; simp; omega
theorem set_bound {l : List Int} {a : Nat} {v : Int} (h : ∀ i, 0 ≤ l.getD i 0 ∧ l.getD i 0 ≤ 1048576) (hv : 0 ≤ v ∧ v ≤ 1048576) (i : Nat) : 0 ≤ (l.set a v).getD i 0 ∧ (l.set a v).getD i 0 ≤ 1048576 := by
  rw [List.getD_eq_getElem?_getD, List.getElem?_set]
  by_cases e : a = i
  · subst e
    by_cases hl : a < l.length
    · simp [hl]; exact hv
    · simp [hl]
  · simp only [e, if_false]
    rw [← List.getD_eq_getElem?_getD]
    exact h i
theorem tmod_bound {x c : Int} (hx : 0 ≤ x) (hc : 1 ≤ c) : 0 ≤ x.tmod c ∧ x.tmod c < c := ⟨Int.tmod_nonneg _ hx, Int.tmod_lt_of_pos _ (by omega)⟩
/-- What a step does: nothing, or it tells one more. -/
theorem bgStep_ok {n : NetN} {l : List (Bool × Int)} {votes : List (Int × Int × Int)} {all : List Int} {s : BgSt} {i : Nat} (hn : NetOk n) (hi : i < n.weds.length)
    (hv : 0 ≤ ((wedAt n i).offsets.getD ((votes.getD i (0, 0, 0)).1).toNat 0)) (hc : ∀ i, 1 ≤ all.getD i 1 ∧ all.getD i 1 ≤ 1048576) (h : BgOk n s) :
    BgOk n (bgStep n l votes all s i) ∧ (bgStep n l votes all s i = s ∨ ((bgStep n l votes all s i).more = true ∧ fcount (bgStep n l votes all s i) < fcount s)) := by
  have hw := hn.2.2.2.2.2 _ (List.getElem_mem hi)
  obtain ⟨w1, w2, w3, _⟩ := hw
  have ha : aAt n i < s.kn.length := by rw [h.kl]; simp [aAt, hi]; omega
  have hb : bAt n i < s.kn.length := by rw [h.kl]; simp [bAt, hi]; omega
  have hab : aAt n i ≠ bAt n i := by simp [aAt, bAt, hi]; omega
  unfold bgStep
  split
  · exact ⟨h, .inl rfl⟩
  · next hne =>
    simp only [not_or] at hne
    obtain ⟨ht, hk⟩ := hne
    have hca := hc (aAt n i)
    generalize all.getD (aAt n i) 1 = c at *
    generalize (wedAt n i).offsets.getD ((votes.getD i (0, 0, 0)).1).toNat 0 = v at *
    have hbb := tmod_bound hv hca.1
    have k1 := tmod_bound (x := s.out.getD (aAt n i) 0 + v) (by have := (h.le (aAt n i)).1; omega) hca.1
    have k2 := tmod_bound (x := s.out.getD (bAt n i) 0 - v.tmod c + c) (by have := (h.le (bAt n i)).1; omega) hca.1
    have c1 := count_set_true ha
    have c2 := count_set_true (l := s.kn.set (aAt n i) true) (a := bAt n i) (by simpa using hb)
    have e2 : (s.kn.set (aAt n i) true).getD (bAt n i) false = s.kn.getD (bAt n i) false := by
      simp only [List.getD_eq_getElem?_getD, List.getElem?_set_ne hab]
    rw [e2] at c2
    have hcount : ((s.kn.set (aAt n i) true).set (bAt n i) true).count false < s.kn.count false := by
      cases h1 : s.kn.getD (aAt n i) false <;> cases h2 : s.kn.getD (bAt n i) false <;> simp only [h1, h2] at hk c1 c2
      · exact absurd trivial hk
      · simp at c1 c2; omega
      · simp at c1 c2; omega
      · exact absurd trivial hk
    refine ⟨⟨?_, ?_, ?_⟩, .inr ⟨rfl, hcount⟩⟩
    · simp only; split <;> simp [h.ol]
    · simp [h.kl]
    · simp only
      split
      · exact set_bound h.le (by omega)
      · exact set_bound h.le (by omega)
theorem bgPass_ok {n : NetN} {l : List (Bool × Int)} {votes : List (Int × Int × Int)} {all : List Int} {s : BgSt} (hn : NetOk n)
    (hv : ∀ i, 0 ≤ ((wedAt n i).offsets.getD ((votes.getD i (0, 0, 0)).1).toNat 0)) (hc : ∀ i, 1 ≤ all.getD i 1 ∧ all.getD i 1 ≤ 1048576) (h : BgOk n s) (hm : s.more = false) :
    ∀ k, k ≤ n.weds.length → BgOk n (bgPass n l votes all s k) ∧ fcount (bgPass n l votes all s k) ≤ fcount s ∧ ((bgPass n l votes all s k).more = true → fcount (bgPass n l votes all s k) < fcount s)
  | 0, _ => ⟨h, Nat.le_refl _, fun e => by rw [show bgPass n l votes all s 0 = s from rfl, hm] at e; cases e⟩
  | k + 1, hk => by
    obtain ⟨i1, i2, i3⟩ := bgPass_ok hn hv hc h hm k (by omega) (l := l)
    rw [bgPass_succ]
    obtain ⟨j1, j2⟩ := bgStep_ok (l := l) (votes := votes) hn (show k < n.weds.length by omega) (hv k) hc i1
    refine ⟨j1, ?_, fun hmo => ?_⟩
    · rcases j2 with j2 | ⟨_, j2⟩
      · rw [j2]; exact i2
      · omega
    · rcases j2 with j2 | ⟨_, j2⟩
      · rw [j2] at hmo ⊢; exact i3 hmo
      · omega
def kn0 (g : List Int) : List Bool := (List.range g.length).map fun (i : Nat) => decide (g.getD i 0 = (i : Int))
def bg0 (n : NetN) (g : List Int) : BgSt := ⟨List.replicate n.subs.length 0, kn0 g, true⟩
def beginN (n : NetN) (l : List (Bool × Int)) (votes : List (Int × Int × Int)) (all g : List Int) : List Int := (bgF n l votes all (bmeas (bg0 n g)) (bg0 n g)).out
theorem bg0_ok {n : NetN} {g : List Int} (h : g.length = n.subs.length) : BgOk n (bg0 n g) := by
  refine ⟨by simp [bg0], by simp [bg0, kn0, h], fun i => ?_⟩
  simp only [bg0, List.getD_eq_getElem?_getD, List.getElem?_replicate]
  split <;> simp
end Go.Proofs.YtpijmanjjhpkiaaGreatDoor

namespace Go.Proofs.YtpijmanjjhpkiaaGreatDoor
open Go.AM Go.RowKit
set_option maxRecDepth 100000

def votesV (votes : List (Int × Int × Int)) : List V := votes.map voteV
theorem votes_pure (l : List (Int × Int × Int)) : pures (votesV l) := pures_map _ (fun u => by simp [voteV, go_sem]) l
theorem votes_len (l : List (Int × Int × Int)) : (votesV l).length = l.length := by simp [votesV]
theorem nth_votes {l : List (Int × Int × Int)} {k : Nat} (h : k < l.length) : nth (votesV l) k = voteV l[k] := nth_map h
def votedAt (n : NetN) (votes : List (Int × Int × Int)) (i : Nat) : Prop := 0 ≤ (votes.getD i (0, 0, 0)).1 ∧ (votes.getD i (0, 0, 0)).1 < ((wedAt n i).offsets.length : Int)
def votedOk (n : NetN) (votes : List (Int × Int × Int)) : Prop := ∀ i, i < votes.length → votedAt n votes i
noncomputable instance (n : NetN) (votes : List (Int × Int × Int)) : Decidable (votedOk n votes) := Classical.propDecidable _
noncomputable def offsC (n : NetN) (l : List (Bool × Int)) (votes : List (Int × Int × Int)) (cs : List Int) : Int :=
  if bondedC n l = 0 then if votes.length ≠ n.weds.length then 4 else if votedOk n votes then cycledC n cs else 2 else bondedC n l
noncomputable def offsL (n : NetN) (l : List (Bool × Int)) (votes : List (Int × Int × Int)) (cs : List Int) : List Int :=
  if offsC n l votes cs = 0 then beginN n l votes (commonG (groupsN n l) cs) (groupsN n l) else []
theorem offsC_ok {n : NetN} {l : List (Bool × Int)} {votes : List (Int × Int × Int)} {cs : List Int} (h : offsC n l votes cs = 0) : bondedC n l = 0 ∧ votes.length = n.weds.length ∧ votedOk n votes ∧ cycledC n cs = 0 := by
  unfold offsC at h
  by_cases h1 : bondedC n l = 0
  · rw [if_pos h1] at h
    by_cases h2 : votes.length = n.weds.length
    · rw [if_neg (by simpa using h2)] at h
      by_cases h3 : votedOk n votes
      · rw [if_pos h3] at h; exact ⟨h1, h2, h3, h⟩
      · rw [if_neg h3] at h; omega
    · rw [if_pos h2] at h; omega
  · rw [if_neg h1] at h; exact absurd h h1
theorem comK_bound {g cs : List Int} (h : ∀ c ∈ cs, 1 ≤ c ∧ c ≤ 1048576) {i : Nat} (hi : i < cs.length) : ∀ k, k ≤ cs.length → 1 ≤ comK g cs i k ∧ comK g cs i k ≤ 1048576
  | 0, _ => by
    have := h _ (List.getElem_mem hi)
    simp [comK, hi]; omega
  | k + 1, hk => by
    have ih := comK_bound h hi k (by omega) (g := g)
    have hkl : k < cs.length := by omega
    have := h _ (List.getElem_mem hkl)
    rw [comK_succ]
    simp only [List.getD_eq_getElem?_getD, List.getElem?_eq_getElem hkl, Option.getD_some]
    split
    · unfold maxI; split <;> omega
    · exact ih
theorem commonG_at {g cs : List Int} {i : Nat} (hi : i < cs.length) : (commonG g cs).getD i 1 = comK g cs i cs.length := by
  simp [commonG, comL, hi]
theorem commonG_bound {g cs : List Int} (h : ∀ c ∈ cs, 1 ≤ c ∧ c ≤ 1048576) (i : Nat) : 1 ≤ (commonG g cs).getD i 1 ∧ (commonG g cs).getD i 1 ≤ 1048576 := by
  by_cases hi : i < cs.length
  · rw [commonG_at hi]; exact comK_bound h hi _ (Nat.le_refl _)
  · simp [commonG, comL, hi]
theorem commonG_len (g cs : List Int) : (commonG g cs).length = cs.length := by simp [commonG, comL]
theorem km_pure (kn : List Bool) : pures (kmV kn) := by unfold kmV; exact pures_map _ (fun u => by simp [go_sem]) _
theorem kn0_next {g : List Int} {k : Nat} (h : k < g.length) : mput (.int .i64 (k : Int)) (.bool (g[k] == (k : Int))) (kmV ((kn0 g).take k)) = some (kmV ((kn0 g).take (k + 1))) := by
  have hl : ((kn0 g).take k).length = k := by simp [kn0]; omega
  have hk : k < (kn0 g).length := by simp [kn0]; omega
  have hn := new_km ((kn0 g).take k) (g[k] == (k : Int))
  rw [hl] at hn
  rw [hn, List.take_succ_eq_append_getElem hk]
  congr 3
  simp only [kn0, List.getElem_map, List.getElem_range]
  rw [show g.getD k 0 = g[k] by simp [h]]
  by_cases e : g[k] = (k : Int) <;> simp [e]

theorem argLe_ints {hp : Heap} {B : Nat → Prop} {k : Nat} (l : List Int) : all2 (argLe hp B V.noRef (k + 1)) (ints l) (ints l) := all2_self fun x hx => by
  obtain ⟨n, _, rfl⟩ := List.mem_map.1 hx
  simp [argLe, V.noRef]
def bgHp (n : NetN) (all : List Int) (km : List V) (out : List V) : List (Nat × AM.Obj) := [(1264, ⟨.map, 157, 1, km⟩), (1248, ⟨.arr, 3, 1, out⟩), (1184, ⟨.arr, 3, 1, ints all⟩), (0, ⟨.box, 26, 6, [netV n]⟩)]
def bgS (n : NetN) (l : List (Bool × Int)) (votes : List (Int × Int × Int)) (all : List Int) (sl : List (Nat × V)) (km out : List V) (nx : Nat) : St :=
  ⟨sl ++ [(16, .mp 1264), (15, .obj 1248 n.subs.length), (14, .obj 1184 all.length), (4, .ptr 0 1 0 0), (2, .sl 3 (votesV votes)), (1, .sl 2 (bondsV l))], bgHp n all km out, nx, [], 171, 0, tabG⟩
set_option maxHeartbeats 8000000 in
theorem Offsets_fresh (n : NetN) (l : List (Bool × Int)) (votes : List (Int × Int × Int)) (cs : List Int) :
    FnF Tryz.prog 66 [netV n, .sl 2 (bondsV l), .sl 3 (votesV votes), .sl 1 (ints cs)] (.tup [.sl 1 (ints (offsL n l votes cs)), .int .i64 (offsC n l votes cs)]) tabG := by
  have hp1 := sits_pure n.sites
  have hp2 := subs_pure n.subs
  have hp3 := weds_pure n.weds
  have hpb := bonds_pure l
  have hpv := votes_pure votes
  have hpc := ints_pure cs
  have hc := bonded_spec n l
  have hcy := cycled_spec n cs
  have hcm := common_spec n l cs
  have hgs := groups_spec n l
  have hnv : netV n = .agg [.sl 12 (n.sites.map sitV), .sl 2 (n.subs.map subV), .sl 4 (n.weds.map wedV), .int .i64 n.low, .int .i64 n.high, .int .i64 n.step] := rfl
  rw [hnv] at hc hcy hcm hgs ⊢
  refine fnF_of mixed Tryz.func66 rfl rfl (by simp [Tryz.ntmps66]) fun hwf E => ?_
  simp (disch := omega) [go_sem, votes_len, bonds_len, ints_len] at hwf
  simp (disch := omega) [Tryz.ntmps66, go_sem]
  refine callK_data hc [] (by simp [go_sem, hp1, hp2, hp3, hpb]) (.inl rfl) (by simp [go_sem]) (fun _ => ?_) (by simp [tabG, go_sem])
  simp (disch := omega) [go_sem]
  refine br_of (fun h => ?_) (fun h => ?_) <;> simp at h
  · have e : offsC n l votes cs = bondedC n l := by unfold offsC; rw [if_neg h]
    have e2 : offsL n l votes cs = [] := by unfold offsL; rw [e, if_neg h]
    rw [e, e2]
    simp (disch := omega) [go_sem, h, ints]
  · obtain ⟨hn, hl, _⟩ := bonded_ok h
    have hs6 : n.subs.length ≤ 6 := hn.2.2.1.1.2
    simp (disch := omega) [go_sem, votes_len]
    refine br_of (fun h2 => ?_) (fun h2 => ?_) <;> simp at h2
    · have e : offsC n l votes cs = 4 := by unfold offsC; rw [if_pos h, if_pos (by omega)]
      have e2 : offsL n l votes cs = [] := by unfold offsL; rw [e, if_neg (by decide)]
      rw [e, e2]
      simp (disch := omega) [go_sem, h2, ints]
    · have hvl : votes.length = n.weds.length := by omega
      simp (disch := omega) [go_sem, votes_len]
      refine awz_loop mixed (fun k : Nat => ⟨[(38, .int .i64 k), (37, .int .i64 votes.length), (36, .sl 3 (votesV votes)), (4, .ptr 0 1 0 0), (3, .sl 1 (ints cs)), (2, .sl 3 (votesV votes)), (1, .sl 2 (bondsV l))], [(0, ⟨.box, 26, 6, [netV n]⟩)], 1024, [], 171, 0, tabG⟩)
        (fun k => k ≤ votes.length ∧ ∀ i, i < k → votedAt n votes i) (fun k => votes.length - k) 0 ⟨by omega, fun i hi => by omega⟩ ?_ ?_
      · refine Le.mk [(0, some 0)] [0] ⟨rfl, rfl, rfl⟩ ?_ ?_ ?_ <;> simp [go_sem, netV, hp1, hp2, hp3, hpb, hpv, hpc]
      · rintro k ⟨hk, hno⟩
        simp (disch := omega) [go_sem, netV]
        refine br_of (fun h3 => ?_) (fun h3 => ?_) <;> simp at h3
        · have hkw : k < n.weds.length := by omega
          have hgv := nth_votes h3
          have hgw : nth (n.weds.map wedV) k = wedV n.weds[k] := nth_map hkw
          have hoff : n.weds[k].offsets.length ≤ 8 := (hn.2.2.2.2.2 _ (List.getElem_mem hkw)).2.2.2.2.1.2
          have hat : votedAt n votes k = (0 ≤ (votes[k]).1 ∧ (votes[k]).1 < ((n.weds[k]).offsets.length : Int)) := by
            unfold votedAt wedAt
            simp [h3, hkw]
          generalize n.weds[k] = w at *
          generalize votes[k] = v at *
          obtain ⟨wa, wb, wv, wo⟩ := w
          obtain ⟨v1, v2, v3⟩ := v
          simp only at hat hoff
          have hpo := ints_pure wo
          simp (disch := omega) [go_sem, h3, hgv, hgw, wedV, voteV, ints_len, votes_len]
          refine ⟨fun _ => hkw, .inl (by kernel_rfl), ?_⟩
          refine br_of (fun h4 => ?_) (fun h4 => ?_) <;> simp at h4
          · have hvo : ¬ votedOk n votes := fun hv => by
              have := hv k h3
              rw [hat] at this
              omega
            have e : offsC n l votes cs = 2 := by unfold offsC; rw [if_pos h, if_neg (by omega), if_neg hvo]
            have e2 : offsL n l votes cs = [] := by unfold offsL; rw [e, if_neg (by decide)]
            rw [e, e2]
            simp (disch := omega) [go_sem, ints]
          · simp (disch := omega) [go_sem]
            refine round_of (k + 1) ⟨by omega, fun i hi => ?_⟩ (by omega) (Le.mk [(0, some 0)] [0] ⟨rfl, rfl, rfl⟩ ?_ ?_ ?_)
            · by_cases e : i = k
              · rw [e, hat]; omega
              · exact hno i (by omega)
            all_goals simp [go_sem, netV, hp1, hp2, hp3, hpb, hpv, hpc]
        · have hkl : k = votes.length := by omega
          subst hkl
          have hvo : votedOk n votes := hno
          have e : offsC n l votes cs = cycledC n cs := by unfold offsC; rw [if_pos h, if_neg (by omega), if_pos hvo]
          simp (disch := omega) [go_sem]
          refine callK_data (hcy hn) [] (by simp [go_sem, hp1, hp2, hp3, hpc]) (.inl rfl) (by simp [go_sem]) (fun _ => ?_) (by simp [tabG, go_sem])
          simp (disch := omega) [go_sem]
          refine br_of (fun h4 => ?_) (fun h4 => ?_) <;> simp at h4
          · have e2 : offsL n l votes cs = [] := by unfold offsL; rw [e, if_neg h4]
            rw [e, e2]
            simp (disch := omega) [go_sem, h4, ints]
          · obtain ⟨hk4, hcs⟩ := cycled_ok h4
            have e2 : offsL n l votes cs = beginN n l votes (commonG (groupsN n l) cs) (groupsN n l) := by unfold offsL; rw [e, if_pos h4]
            rw [e, e2, h4]
            have hcb : ∀ c ∈ cs, 1 ≤ c ∧ c ≤ 1048576 := fun c hc => cyc_bound hn.1 (hcs c hc)
            have hab := commonG_bound (g := groupsN n l) hcb
            have hal := commonG_len (groupsN n l) cs
            have hgl := (groups_ok (l := l) hn).len
            have hcm := hcm hn hl hk4
            have hgs := hgs hn hl
            generalize groupsN n l = g at *
            generalize commonG g cs = all at *
            have hpg := ints_pure g
            have hpa := ints_pure all
            have hpr := pures_rep n.subs.length
            simp (disch := omega) [go_sem]
            refine callK_ref hcm [] [] [] [] ?_ ?_ ?_ (.inl ⟨rfl, .inl rfl⟩) (fun _ => ?_)
            · simp [go_sem, hp1, hp2, hp3, hpb, hpc]
            · simp [go_sem]
            · simp [go_sem]
            simp (disch := omega) [go_sem]
            refine ⟨by omega, .inl (by kernel_rfl), ?_⟩
            refine callK_data hgs [] (by simp [go_sem, hp1, hp2, hp3, hpb]) (.inl rfl) (by simp [go_sem, hpg]) (fun _ => ?_)
            simp (disch := omega) [go_sem, ints_len]
            have hkl0 : (kn0 g).length = g.length := by simp [kn0]
            refine awz_loop mixed (fun k : Nat => bgS n l votes all [(78, .int .i64 k), (77, .int .i64 g.length), (76, .sl 1 (ints g))] (kmV ((kn0 g).take k)) (List.replicate n.subs.length (V.int .i64 0)) 2048)
              (fun k => k ≤ g.length) (fun k => g.length - k) 0 (by omega) ?_ ?_
            · refine Le.mk [(0, some 0), (1184, some 1184), (1248, some 1248), (1264, some 1264)] [0, 1184, 1248, 1264] ⟨rfl, rfl, rfl⟩ ?_ ?_ ?_ <;> simp [go_sem, bgS, bgHp, netV, hp1, hp2, hp3, hpb, hpv, hpc, hpg, hpa, hpr, kmV, hal]
            · intro m hm
              simp (disch := omega) [go_sem, bgS, bgHp, netV]
              refine br_of (fun h5 => ?_) (fun h5 => ?_) <;> simp at h5
              · have hput := kn0_next h5
                have hgm := nth_ints h5
                have hkml : (kmV ((kn0 g).take m)).length ≤ 6 := by rw [km_len, List.length_take]; omega
                have hpk := km_pure ((kn0 g).take (m + 1))
                simp (disch := omega) [go_sem, ints_len, hgm, hput]
                exact ⟨h5, by omega, round_of (m + 1) (by omega) (by omega) (Le.mk [(0, some 0), (1184, some 1184), (1248, some 1248), (1264, some 1264)] [0, 1184, 1248, 1264] ⟨rfl, rfl, rfl⟩ (by simp [go_sem, bgS, bgHp, netV, hp1, hp2, hp3, hpb, hpv, hpc, hpg, hpa, hpr]) (by simp [go_sem, bgS, bgHp, netV, hp1, hp2, hp3, hpb, hpv, hpc, hpg, hpa, hpr, hpk]) (by simp [go_sem, bgS, bgHp, netV, hp1, hp2, hp3, hpb, hpv, hpc, hpg, hpa, hpr]))⟩
              · have hml : m = g.length := by omega
                subst hml
                rw [List.take_of_length_le (by omega)]
                simp (disch := omega) [go_sem]
                have hok0 := bg0_ok (n := n) hgl
                have hwk : ∀ k, ∀ h : k < n.weds.length, 0 ≤ n.weds[k].a ∧ n.weds[k].a < n.weds[k].b ∧ n.weds[k].b < n.subs.length := fun k h => by
                  have := hn.2.2.2.2.2 _ (List.getElem_mem h)
                  exact ⟨this.1, this.2.1, this.2.2.1⟩
                have hby : ∀ i, 0 ≤ (wedAt n i).offsets.getD ((votes.getD i (0, 0, 0)).1).toNat 0 ∧ (wedAt n i).offsets.getD ((votes.getD i (0, 0, 0)).1).toNat 0 ≤ 1048576 := fun i => by
                  unfold wedAt
                  by_cases hi : i < n.weds.length
                  · have hw := (hn.2.2.2.2.2 _ (List.getElem_mem hi)).2.2.2.2.2
                    have ht : n.low ≤ 1048576 := hn.1.1.2
                    simp only [List.getD_eq_getElem?_getD, List.getElem?_eq_getElem hi, Option.getD_some]
                    generalize ((votes[i]?).getD (0, 0, 0)).1.toNat = j
                    by_cases hj : j < n.weds[i].offsets.length
                    · simp only [List.getElem?_eq_getElem hj, Option.getD_some]
                      have := hw _ (List.getElem_mem hj)
                      omega
                    · simp [hj]
                  · simp [hi]
                refine awz_loop mixed (fun p : BgSt × Nat => bgS n l votes all [(19, .bool p.1.more)] (kmV p.1.kn) (ints p.1.out) 4096)
                  (fun p => BgOk n p.1 ∧ bmeas p.1 ≤ p.2 ∧ beginN n l votes all g = (bgF n l votes all p.2 p.1).out) (fun p => bmeas p.1) (bg0 n g, bmeas (bg0 n g)) ⟨hok0, Nat.le_refl _, rfl⟩ ?_ ?_
                · have hpk := km_pure (kn0 g)
                  have hrz : ints (List.replicate n.subs.length 0) = List.replicate n.subs.length (V.int .i64 0) := by simp [ints]
                  refine Le.mk [(0, some 0), (1184, some 1184), (1248, some 1248), (1264, some 1264)] [0, 1184, 1248, 1264] ⟨rfl, rfl, rfl⟩ ?_ ?_ ?_ <;> simp [go_sem, bgS, bgHp, netV, hp1, hp2, hp3, hpb, hpv, hpc, hpg, hpa, hpr, bg0, hpk, hal, hrz]
                · rintro ⟨s, f⟩ ⟨hok, hf, hbe⟩
                  simp only at hok hf hbe
                  simp (disch := omega) [go_sem, bgS, bgHp, netV]
                  refine br_of (fun h6 => ?_) (fun h6 => ?_)
                  · have hpass := bgPass_ok (s := ⟨s.out, s.kn, false⟩) (l := l) (votes := votes) (all := all) hn (fun i => (hby i).1) hab ⟨hok.ol, hok.kl, hok.le⟩ rfl
                    obtain ⟨f', rfl⟩ : ∃ f', f = f' + 1 := ⟨f - 1, by unfold bmeas at hf; rw [h6] at hf; simp at hf; omega⟩
                    rw [bgF, if_pos h6] at hbe
                    have hfc : fcount ⟨s.out, s.kn, false⟩ = fcount s := rfl
                    rw [hfc] at hpass
                    generalize hs0 : (⟨s.out, s.kn, false⟩ : BgSt) = s0 at *
                    simp (disch := omega) [go_sem]
                    refine awz_loop mixed (fun k : Nat => bgS n l votes all [(93, .int .i64 k), (92, .int .i64 n.weds.length), (91, .sl 4 (n.weds.map wedV)), (19, .bool (bgPass n l votes all s0 k).more)] (kmV (bgPass n l votes all s0 k).kn) (ints (bgPass n l votes all s0 k).out) 8192)
                      (fun k => k ≤ n.weds.length) (fun k => n.weds.length - k) 0 (by omega) ?_ ?_
                    · have hpk := km_pure s.kn
                      have e0 : bgPass n l votes all s0 0 = s0 := rfl
                      have hpo := ints_pure s.out
                      rw [← hs0] at e0
                      refine Le.mk [(0, some 0), (1184, some 1184), (1248, some 1248), (1264, some 1264)] [0, 1184, 1248, 1264] ⟨rfl, rfl, rfl⟩ ?_ ?_ ?_ <;> simp [go_sem, bgS, bgHp, netV, hp1, hp2, hp3, hpb, hpv, hpc, hpg, hpa, hpr, hpk, hpo, ← hs0, e0]
                    · intro k hk
                      have hpk := hpass k hk
                      have hsucc := bgPass_succ n l votes all s0 k
                      generalize ht : bgPass n l votes all s0 k = t at *
                      simp (disch := omega) [go_sem, bgS, bgHp, netV]
                      refine br_of (fun h7 => ?_) (fun h7 => ?_) <;> simp at h7
                      · have hw := hwk k h7
                        have hgw : nth (n.weds.map wedV) k = wedV n.weds[k] := nth_map h7
                        have ha : aAt n k = n.weds[k].a.toNat := by simp [aAt, h7]
                        have hb : bAt n k = n.weds[k].b.toNat := by simp [bAt, h7]
                        have hwd : wedAt n k = n.weds[k] := by simp [wedAt, h7]
                        have hkl7 : k < l.length := by omega
                        have hkv7 : k < votes.length := by omega
                        have hgb : nth (bondsV l) k = bondV l[k] := nth_bonds hkl7
                        have hgv := nth_votes hkv7
                        have htg : tog l k = l[k].1 := by simp [tog, hkl7]
                        have hvd : votes.getD k (0, 0, 0) = votes[k] := by simp [hkv7]
                        have hvo7 := hvo k hkv7
                        unfold votedAt at hvo7
                        have hby7 := hby k
                        have hstep : bgStep n l votes all t k = if l[k].1 = false ∨ t.kn.getD n.weds[k].a.toNat false = t.kn.getD n.weds[k].b.toNat false then t
                          else ⟨if t.kn.getD n.weds[k].a.toNat false then t.out.set n.weds[k].b.toNat ((t.out.getD n.weds[k].a.toNat 0 + n.weds[k].offsets.getD votes[k].1.toNat 0).tmod (all.getD n.weds[k].a.toNat 1))
                              else t.out.set n.weds[k].a.toNat ((t.out.getD n.weds[k].b.toNat 0 - (n.weds[k].offsets.getD votes[k].1.toNat 0).tmod (all.getD n.weds[k].a.toNat 1) + all.getD n.weds[k].a.toNat 1).tmod (all.getD n.weds[k].a.toNat 1)),
                            (t.kn.set n.weds[k].a.toNat true).set n.weds[k].b.toNat true, true⟩ := by
                          unfold bgStep
                          rw [htg, ha, hb, hwd, hvd]
                        rw [hwd, hvd] at hvo7 hby7
                        have hkbl : bondsV l = bondsV l := rfl
                        generalize n.weds[k] = w at *
                        generalize votes[k] = v at *
                        generalize l[k] = bd at *
                        obtain ⟨wa, wb, wv, wo⟩ := w
                        obtain ⟨v1, v2, v3⟩ := v
                        obtain ⟨tg, mn⟩ := bd
                        simp only at hw hvo7 hby7 hstep
                        obtain ⟨a, rfl⟩ := Int.eq_ofNat_of_zero_le hw.1
                        obtain ⟨b, rfl⟩ := Int.eq_ofNat_of_zero_le (show 0 ≤ wb by omega)
                        obtain ⟨j, rfl⟩ := Int.eq_ofNat_of_zero_le hvo7.1
                        simp only [Int.toNat_natCast] at hstep hby7
                        have hok7 := hpk.1
                        have hak : a < t.kn.length := by rw [hok7.kl]; omega
                        have hbk : b < t.kn.length := by rw [hok7.kl]; omega
                        have hao : a < t.out.length := by rw [hok7.ol]; omega
                        have hbo : b < t.out.length := by rw [hok7.ol]; omega
                        have haa : a < all.length := by omega
                        have hjo : j < wo.length := by omega
                        have hma := mfind_km hak
                        have hmb := mfind_km hbk
                        have hpwo := ints_pure wo
                        rw [hstep] at hsucc
                        have hab7 := hab a
                        have hea : all.getD a 1 = all[a] := by simp [haa]
                        have heo : wo.getD j 0 = wo[j] := by simp [hjo]
                        have hoa : t.out.getD a 0 = t.out[a] := by simp [hao]
                        have hob : t.out.getD b 0 = t.out[b] := by simp [hbo]
                        have hla := hok7.le a
                        have hlb := hok7.le b
                        rw [hoa] at hla
                        rw [hob] at hlb
                        rw [hea] at hab7
                        rw [heo] at hby7
                        rw [hea, heo, hoa, hob] at hsucc
                        have hna := nth_ints haa
                        have hnj := nth_ints hjo
                        have hnoa := nth_ints hao
                        have hnob := nth_ints hbo
                        have hkp := km_pure t.kn
                        have hop := ints_pure t.out
                        have hpk1 := put_km hak
                        have hpk2 := put_km (kn := t.kn.set a true) (a := b) (by simpa using hbk)
                        have hkl1 : (kmV t.kn).length ≤ 6 := by rw [km_len, hok7.kl]; omega
                        have hkl2 : (kmV (t.kn.set a true)).length ≤ 6 := by rw [km_len, List.length_set, hok7.kl]; omega
                        have hbb := tmod_bound hby7.1 hab7.1
                        have hol7 := hok7.ol
                        have hkp2 := km_pure ((t.kn.set a true).set b true)
                        generalize hka : t.kn.getD a false = ka at *
                        generalize hkb : t.kn.getD b false = kb at *
                        cases tg with
                        | false =>
                          simp only [true_or, if_true] at hsucc
                          simp (disch := omega) [go_sem, h7, hgw, hgb, wedV, bondV, bonds_len, hma, hmb]
                          exact ⟨hkl7, round_of (k + 1) (by omega) (by omega) (Le.mk [(0, some 0), (1184, some 1184), (1248, some 1248), (1264, some 1264)] [0, 1184, 1248, 1264] ⟨rfl, rfl, rfl⟩ (by simp [go_sem, bgS, bgHp, netV, hp1, hp2, hp3, hpb, hpv, hpc, hpg, hpa, hkp, hop, hsucc]) (by simp [go_sem, bgS, bgHp, netV, hp1, hp2, hp3, hpb, hpv, hpc, hpg, hpa, hkp, hop, hsucc]) (by simp [go_sem, bgS, bgHp, netV, hp1, hp2, hp3, hpb, hpv, hpc, hpg, hpa, hkp, hop, hsucc]))⟩
                        | true =>
                          cases ka with
                          | false =>
                            cases kb with
                            | false =>
                              simp only [or_true, if_true] at hsucc
                              simp (disch := omega) [go_sem, h7, hgw, hgb, wedV, bondV, bonds_len, hma, hmb]
                              exact ⟨hkl7, round_of (k + 1) (by omega) (by omega) (Le.mk [(0, some 0), (1184, some 1184), (1248, some 1248), (1264, some 1264)] [0, 1184, 1248, 1264] ⟨rfl, rfl, rfl⟩ (by simp [go_sem, bgS, bgHp, netV, hp1, hp2, hp3, hpb, hpv, hpc, hpg, hpa, hkp, hop, hsucc]) (by simp [go_sem, bgS, bgHp, netV, hp1, hp2, hp3, hpb, hpv, hpc, hpg, hpa, hkp, hop, hsucc]) (by simp [go_sem, bgS, bgHp, netV, hp1, hp2, hp3, hpb, hpv, hpc, hpg, hpa, hkp, hop, hsucc]))⟩
                            | true =>
                              simp (disch := omega) [go_sem, h7, hgw, hgb, wedV, bondV, bonds_len, hma, hmb]
                              refine ⟨hkl7, ?_⟩
                              simp (disch := omega) [go_sem, h7, hgw, hgb, hgv, voteV, wedV, bondV, votes_len, ints_len, hna, hnj, hnoa, hnob, hma, hmb, hpk1, hpk2, hol7]
                              refine ⟨by omega, by omega, by omega, .inl (by kernel_rfl), ?_⟩
                              refine ⟨by omega, by omega, by omega, .inl (by kernel_rfl), ?_⟩
                              refine ⟨by omega, by omega, .inl (by kernel_rfl), ?_⟩
                              rw [if_neg (by decide), if_neg (by decide)] at hsucc
                              refine round_of (k + 1) (by omega) (by omega) (Le.mk [(0, some 0), (1184, some 1184), (1248, some 1248), (1264, some 1264)] [0, 1184, 1248, 1264] ⟨rfl, rfl, rfl⟩ (by simp [go_sem, bgS, bgHp, netV, hp1, hp2, hp3, hpb, hpv, hpc, hpg, hpa, hkp2, ints_pure, hsucc, gints_set]) (by simp [go_sem, bgS, bgHp, netV, hp1, hp2, hp3, hpb, hpv, hpc, hpg, hpa, hkp2, ints_pure, hsucc, gints_set]) (by simp [go_sem, bgS, bgHp, netV, hp1, hp2, hp3, hpb, hpv, hpc, hpg, hpa, hkp2, ints_pure, hsucc, gints_set]))
                          | true =>
                            cases kb with
                            | false =>
                              simp (disch := omega) [go_sem, h7, hgw, hgb, wedV, bondV, bonds_len, hma, hmb]
                              refine ⟨hkl7, ?_⟩
                              simp (disch := omega) [go_sem, h7, hgw, hgb, hgv, voteV, wedV, bondV, votes_len, ints_len, hna, hnj, hnoa, hnob, hma, hmb, hpk1, hpk2, hol7]
                              refine ⟨by omega, by omega, by omega, .inl (by kernel_rfl), ?_⟩
                              refine ⟨by omega, by omega, by omega, .inl (by kernel_rfl), ?_⟩
                              refine ⟨by omega, by omega, .inl (by kernel_rfl), ?_⟩
                              rw [if_neg (by decide), if_pos rfl] at hsucc
                              refine round_of (k + 1) (by omega) (by omega) (Le.mk [(0, some 0), (1184, some 1184), (1248, some 1248), (1264, some 1264)] [0, 1184, 1248, 1264] ⟨rfl, rfl, rfl⟩ (by simp [go_sem, bgS, bgHp, netV, hp1, hp2, hp3, hpb, hpv, hpc, hpg, hpa, hkp2, ints_pure, hsucc, gints_set]) (by simp [go_sem, bgS, bgHp, netV, hp1, hp2, hp3, hpb, hpv, hpc, hpg, hpa, hkp2, ints_pure, hsucc, gints_set]) (by simp [go_sem, bgS, bgHp, netV, hp1, hp2, hp3, hpb, hpv, hpc, hpg, hpa, hkp2, ints_pure, hsucc, gints_set]))
                            | true =>
                              simp only [or_true, if_true] at hsucc
                              simp (disch := omega) [go_sem, h7, hgw, hgb, wedV, bondV, bonds_len, hma, hmb]
                              exact ⟨hkl7, round_of (k + 1) (by omega) (by omega) (Le.mk [(0, some 0), (1184, some 1184), (1248, some 1248), (1264, some 1264)] [0, 1184, 1248, 1264] ⟨rfl, rfl, rfl⟩ (by simp [go_sem, bgS, bgHp, netV, hp1, hp2, hp3, hpb, hpv, hpc, hpg, hpa, hkp, hop, hsucc]) (by simp [go_sem, bgS, bgHp, netV, hp1, hp2, hp3, hpb, hpv, hpc, hpg, hpa, hkp, hop, hsucc]) (by simp [go_sem, bgS, bgHp, netV, hp1, hp2, hp3, hpb, hpv, hpc, hpg, hpa, hkp, hop, hsucc]))⟩
                      · have hkl7 : k = n.weds.length := by omega
                        subst hkl7
                        simp (disch := omega) [go_sem]
                        have hms : bmeas s = fcount s + 1 := by unfold bmeas; rw [h6]; rfl
                        have hmt : bmeas t ≤ fcount s := by
                          unfold bmeas
                          cases hto : t.more with
                          | true => have := hpk.2.2 hto; simp; omega
                          | false => have := hpk.2.1; simp; omega
                        rw [ht] at hbe
                        have hkp := km_pure t.kn
                        have hop := ints_pure t.out
                        refine round_of (t, f') ⟨hpk.1, by simp only; omega, hbe⟩ (by simp only; omega) (Le.mk [(0, some 0), (1184, some 1184), (1248, some 1248), (1264, some 1264)] [0, 1184, 1248, 1264] ⟨rfl, rfl, rfl⟩ ?_ ?_ ?_) <;> simp [go_sem, bgS, bgHp, netV, hp1, hp2, hp3, hpb, hpv, hpc, hpg, hpa, hkp, hop]
                  · have hres : beginN n l votes all g = s.out := by
                      rw [hbe]
                      cases f with
                      | zero => rfl
                      | succ f => rw [bgF, if_neg (by rw [h6]; decide)]
                    rw [hres]
                    have hpo := ints_pure s.out
                    have hol := hok.ol
                    simp (disch := omega) [go_sem, ints_len, hpo, hol]
                    exact argLe_ints _
end Go.Proofs.YtpijmanjjhpkiaaGreatDoor

namespace Go.Proofs.YtpijmanjjhpkiaaGreatDoor
open Go.AM Go.RowKit
set_option maxRecDepth 100000

theorem joins_lt {n : NetN} {l : List (Bool × Int)} {g : List Int} {i : Nat} (hn : NetOk n) (hg : GrOk n g) (hi : i < n.weds.length) : aAt n i < g.length ∧ bAt n i < g.length := by
  have hw := hn.2.2.2.2.2 _ (List.getElem_mem hi)
  obtain ⟨w1, w2, w3, _⟩ := hw
  rw [hg.len]
  exact ⟨by simp [aAt, hi]; omega, by simp [bAt, hi]; omega⟩
theorem merge_less {n : NetN} {l : List (Bool × Int)} {g : List Int} {i : Nat} (hn : NetOk n) (hg : GrOk n g) (h : firstJ n l g = some i) :
    GrOk n (mergeG g (g.getD (aAt n i) 0) (g.getD (bAt n i) 0)) ∧ sumG (mergeG g (g.getD (aAt n i) 0) (g.getD (bAt n i) 0)) < sumG g := by
  have hj := List.find?_some h
  have hm := List.mem_of_find?_eq_some h
  rw [List.mem_range] at hm
  obtain ⟨ha, hb⟩ := joins_lt (l := l) hn hg hm
  have ea : g.getD (aAt n i) 0 = g[aAt n i] := by simp [ha]
  have eb : g.getD (bAt n i) 0 = g[bAt n i] := by simp [hb]
  unfold joins at hj
  rw [Bool.and_eq_true, decide_eq_true_eq] at hj
  rw [ea, eb] at hj ⊢
  have h0 : ∀ v ∈ g, 0 ≤ v := fun v hv => by
    obtain ⟨i, hi, rfl⟩ := List.getElem_of_mem hv
    exact (hg.le i hi).1
  have hmm : minI g[aAt n i] g[bAt n i] < maxI g[aAt n i] g[bAt n i] ∧ 0 ≤ minI g[aAt n i] g[bAt n i] ∧ (maxI g[aAt n i] g[bAt n i] = g[aAt n i] ∨ maxI g[aAt n i] g[bAt n i] = g[bAt n i]) := by
    have := (hg.le _ ha).1
    have := (hg.le _ hb).1
    have := hj.2
    unfold minI maxI; split <;> split <;> omega
  have hmem : maxI g[aAt n i] g[bAt n i] ∈ g := by
    rcases hmm.2.2 with e | e <;> rw [e] <;> exact List.getElem_mem _
  exact ⟨hg.merge ha hb hj.2, sum_merge h0 hmm.1 hmm.2.1 hmem⟩
theorem grF_done {n : NetN} {l : List (Bool × Int)} (hn : NetOk n) : ∀ (f : Nat) (g : List Int), GrOk n g → sumG g ≤ f → firstJ n l (grF n l f g) = none
  | 0, g, hg, hf => by
    cases h : firstJ n l g with
    | none => exact h
    | some i => have := (merge_less hn hg h).2; omega
  | f + 1, g, hg, hf => by
    rw [grF]
    cases h : firstJ n l g with
    | none => exact h
    | some i =>
      obtain ⟨h1, h2⟩ := merge_less hn hg h
      exact grF_done hn f _ h1 (by omega)
/-- No wed that goes together joins two groups. -/
theorem groups_joined {n : NetN} {l : List (Bool × Int)} (hn : NetOk n) {i : Nat} (hi : i < n.weds.length) (ht : tog l i = true) : (groupsN n l).getD (aAt n i) 0 = (groupsN n l).getD (bAt n i) 0 := by
  have h : firstJ n l (groupsN n l) = none := grF_done hn _ _ (GrOk.id n) (Nat.le_refl _)
  unfold firstJ at h
  rw [List.find?_eq_none] at h
  have := h i (by simpa using hi)
  unfold joins at this
  rw [ht] at this
  simpa using this
theorem grF_none {n : NetN} {l : List (Bool × Int)} {g : List Int} (h : firstJ n l g = none) : ∀ f, grF n l f g = g
  | 0 => rfl
  | f + 1 => by rw [grF, h]
theorem groups_apart {n : NetN} {l : List (Bool × Int)} (h : ∀ i, tog l i = false) : groupsN n l = idK n.subs.length n.subs.length := by
  refine grF_none ?_ _
  unfold firstJ
  rw [List.find?_eq_none]
  intro i _
  simp [joins, h i]

/-! the greatest cycle of a group -/
theorem comK_max {g cs : List Int} {i : Nat} (hi : i < cs.length) : ∀ k, k ≤ cs.length →
    (cs.getD i 0 ≤ comK g cs i k) ∧ (∀ j, j < k → g.getD j 0 = g.getD i 0 → cs.getD j 0 ≤ comK g cs i k) ∧ (∃ j, j < cs.length ∧ g.getD j 0 = g.getD i 0 ∧ comK g cs i k = cs.getD j 0)
  | 0, _ => ⟨by simp [comK], fun j h => by omega, i, hi, rfl, by simp [comK]⟩
  | k + 1, hk => by
    obtain ⟨h1, h2, j, hj, hg, he⟩ := comK_max hi k (by omega) (g := g)
    rw [comK_succ]
    by_cases hc : g.getD i 0 = g.getD k 0
    · rw [if_pos hc]
      have hm : comK g cs i k ≤ maxI (comK g cs i k) (cs.getD k 0) ∧ cs.getD k 0 ≤ maxI (comK g cs i k) (cs.getD k 0) := by unfold maxI; split <;> omega
      refine ⟨by omega, fun j' hj' hg' => ?_, ?_⟩
      · by_cases e : j' = k
        · subst e; exact hm.2
        · have := h2 j' (by omega) hg'; omega
      · by_cases h : comK g cs i k < cs.getD k 0
        · exact ⟨k, by omega, hc.symm, by unfold maxI; rw [if_pos h]⟩
        · exact ⟨j, hj, hg, by unfold maxI; rw [if_neg h]; exact he⟩
    · rw [if_neg hc]
      refine ⟨h1, fun j' hj' hg' => ?_, j, hj, hg, he⟩
      by_cases e : j' = k
      · subst e; exact absurd hg'.symm hc
      · exact h2 j' (by omega) hg'
theorem com_ge {g cs : List Int} {i j : Nat} (hi : i < cs.length) (hj : j < cs.length) (h : g.getD j 0 = g.getD i 0) : cs.getD j 0 ≤ (commonG g cs).getD i 1 := by
  rw [commonG_at hi]; exact (comK_max hi _ (Nat.le_refl _)).2.1 j hj h
theorem com_ex {g cs : List Int} {i : Nat} (hi : i < cs.length) : ∃ j, j < cs.length ∧ g.getD j 0 = g.getD i 0 ∧ (commonG g cs).getD i 1 = cs.getD j 0 := by
  rw [commonG_at hi]; exact (comK_max hi _ (Nat.le_refl _)).2.2
theorem com_same {g cs : List Int} {i j : Nat} (hi : i < cs.length) (hj : j < cs.length) (h : g.getD j 0 = g.getD i 0) : (commonG g cs).getD j 1 = (commonG g cs).getD i 1 := by
  obtain ⟨a, ha, ga, ea⟩ := com_ex (g := g) hi
  obtain ⟨b, hb, gb, eb⟩ := com_ex (g := g) hj
  have h1 := com_ge (g := g) hi hb (by rw [gb, h])
  have h2 := com_ge (g := g) hj ha (by rw [ga, h])
  omega

/-! beginnings -/
structure BgIn (n : NetN) (all g : List Int) (s : BgSt) : Prop where
  ok : BgOk n s
  lt : ∀ i, i < n.subs.length → s.out.getD i 0 < all.getD i 1
  rt : ∀ i, i < n.subs.length → g.getD i 0 = (i : Int) → s.kn.getD i false = true ∧ s.out.getD i 0 = 0
theorem getD_set {α : Type} {l : List α} {a i : Nat} {v d : α} : (l.set a v).getD i d = if a = i ∧ a < l.length then v else l.getD i d := by
  simp only [List.getD_eq_getElem?_getD, List.getElem?_set]
  by_cases e : a = i
  · subst e
    by_cases h : a < l.length
    · simp [h]
    · simp [h]
  · simp [e]
theorem bgStep_in {n : NetN} {l : List (Bool × Int)} {votes : List (Int × Int × Int)} {all g : List Int} {s : BgSt} {i : Nat} (hn : NetOk n) (hi : i < n.weds.length)
    (hv : 0 ≤ ((wedAt n i).offsets.getD ((votes.getD i (0, 0, 0)).1).toNat 0)) (hc : ∀ i, 1 ≤ all.getD i 1 ∧ all.getD i 1 ≤ 1048576)
    (hj : tog l i = true → all.getD (aAt n i) 1 = all.getD (bAt n i) 1) (h : BgIn n all g s) : BgIn n all g (bgStep n l votes all s i) := by
  have hok := (bgStep_ok (l := l) (votes := votes) hn hi hv hc h.ok).1
  have hw := hn.2.2.2.2.2 _ (List.getElem_mem hi)
  obtain ⟨w1, w2, w3, _⟩ := hw
  have ha : aAt n i < n.subs.length := by simp [aAt, hi]; omega
  have hb : bAt n i < n.subs.length := by simp [bAt, hi]; omega
  refine ⟨hok, ?_, ?_⟩
  · intro j hj'
    unfold bgStep
    split
    · exact h.lt j hj'
    · next hne =>
      simp only [not_or] at hne
      obtain ⟨ht, hk⟩ := hne
      have ht' : tog l i = true := by simpa using ht
      have hab := hj ht'
      have hca := hc (aAt n i)
      have hlj := h.lt j hj'
      generalize hcc : all.getD (aAt n i) 1 = c at *
      generalize (wedAt n i).offsets.getD ((votes.getD i (0, 0, 0)).1).toNat 0 = v at *
      have hbb := tmod_bound hv hca.1
      have k1 := tmod_bound (x := s.out.getD (aAt n i) 0 + v) (by have := (h.ok.le (aAt n i)).1; omega) hca.1
      have k2 := tmod_bound (x := s.out.getD (bAt n i) 0 - v.tmod c + c) (by have := (h.ok.le (bAt n i)).1; omega) hca.1
      simp only
      split
      · rw [getD_set]
        split
        · next e => rw [← e.1, ← hab]; exact k1.2
        · exact hlj
      · rw [getD_set]
        split
        · next e => rw [← e.1, hcc]; exact k2.2
        · exact hlj
  · intro j hj' hg
    obtain ⟨r1, r2⟩ := h.rt j hj' hg
    unfold bgStep
    split
    · exact ⟨r1, r2⟩
    · next hne =>
      simp only [not_or] at hne
      obtain ⟨ht, hk⟩ := hne
      refine ⟨?_, ?_⟩
      · simp only
        rw [getD_set]
        split
        · rfl
        · rw [getD_set]
          split
          · rfl
          · exact r1
      · simp only
        split
        · next hka =>
          rw [getD_set, if_neg]
          · exact r2
          · rintro ⟨e, _⟩
            rw [← e] at r1
            rw [hka, r1] at hk
            exact hk rfl
        · next hka =>
          rw [getD_set, if_neg]
          · exact r2
          · rintro ⟨e, _⟩
            rw [← e] at r1
            exact hka r1
theorem bgPass_in {n : NetN} {l : List (Bool × Int)} {votes : List (Int × Int × Int)} {all g : List Int} {s : BgSt} (hn : NetOk n)
    (hv : ∀ i, 0 ≤ ((wedAt n i).offsets.getD ((votes.getD i (0, 0, 0)).1).toNat 0)) (hc : ∀ i, 1 ≤ all.getD i 1 ∧ all.getD i 1 ≤ 1048576)
    (hj : ∀ i, i < n.weds.length → tog l i = true → all.getD (aAt n i) 1 = all.getD (bAt n i) 1) (h : BgIn n all g s) : ∀ k, k ≤ n.weds.length → BgIn n all g (bgPass n l votes all s k)
  | 0, _ => h
  | k + 1, hk => by
    rw [bgPass_succ]
    exact bgStep_in hn (by omega) (hv k) hc (hj k (by omega)) (bgPass_in hn hv hc hj h k (by omega))
theorem bgF_in {n : NetN} {l : List (Bool × Int)} {votes : List (Int × Int × Int)} {all g : List Int} (hn : NetOk n)
    (hv : ∀ i, 0 ≤ ((wedAt n i).offsets.getD ((votes.getD i (0, 0, 0)).1).toNat 0)) (hc : ∀ i, 1 ≤ all.getD i 1 ∧ all.getD i 1 ≤ 1048576)
    (hj : ∀ i, i < n.weds.length → tog l i = true → all.getD (aAt n i) 1 = all.getD (bAt n i) 1) : ∀ (f : Nat) (s : BgSt), BgIn n all g s → BgIn n all g (bgF n l votes all f s)
  | 0, s, h => h
  | f + 1, s, h => by
    rw [bgF]
    split
    · exact bgF_in hn hv hc hj f _ (bgPass_in hn hv hc hj (s := ⟨s.out, s.kn, false⟩) ⟨⟨h.ok.ol, h.ok.kl, h.ok.le⟩, h.lt, h.rt⟩ _ (Nat.le_refl _))
    · exact h
theorem bg0_in {n : NetN} {all g : List Int} (hg : g.length = n.subs.length) (hc : ∀ i, 1 ≤ all.getD i 1 ∧ all.getD i 1 ≤ 1048576) : BgIn n all g (bg0 n g) := by
  have hz : ∀ i, (bg0 n g).out.getD i 0 = 0 := fun i => by
    simp only [bg0, List.getD_eq_getElem?_getD, List.getElem?_replicate]
    split <;> rfl
  refine ⟨bg0_ok hg, fun i hi => ?_, fun i hi h => ⟨?_, hz i⟩⟩
  · rw [hz]; have := (hc i).1; omega
  · have hi' : i < g.length := by omega
    simp [bg0, kn0, hi', List.getD_eq_getElem?_getD] at h ⊢
    exact h

/-- THE STAGE'S THEOREM. -/
structure PartsOk (n : NetN) (l : List (Bool × Int)) (cs g c o : List Int) : Prop where
  gl : g.length = n.subs.length
  cl : c.length = n.subs.length
  ol : o.length = n.subs.length
  sl : cs.length = n.subs.length
  joined : ∀ i, i < n.weds.length → tog l i = true → g.getD (aAt n i) 0 = g.getD (bAt n i) 0 ∧ c.getD (aAt n i) 1 = c.getD (bAt n i) 1
  gr : ∀ i, i < n.subs.length → 0 ≤ g.getD i 0 ∧ g.getD i 0 ≤ (i : Int) ∧ g.getD (g.getD i 0).toNat 0 = g.getD i 0
  og : ∀ i, i < n.subs.length → 0 ≤ o.getD i 0 ∧ o.getD i 0 < c.getD i 1 ∧ (g.getD i 0 = (i : Int) → o.getD i 0 = 0)
  alone : (∀ i, tog l i = false) → ∀ i, i < n.subs.length → g.getD i 0 = (i : Int) ∧ c.getD i 1 = cs.getD i 0
  most : ∀ i k, i < n.subs.length → k < n.subs.length → g.getD k 0 = g.getD i 0 → cs.getD k 0 ≤ c.getD i 1 ∧ c.getD k 1 = c.getD i 1
  has : ∀ i, i < n.subs.length → ∃ k, k < n.subs.length ∧ g.getD k 0 = g.getD i 0 ∧ cs.getD k 0 = c.getD i 1
theorem parts_ok {n : NetN} {l : List (Bool × Int)} {votes : List (Int × Int × Int)} {cs : List Int} (h : offsC n l votes cs = 0) :
    PartsOk n l cs (groupsN n l) (commonG (groupsN n l) cs) (beginN n l votes (commonG (groupsN n l) cs) (groupsN n l)) := by
  obtain ⟨h1, h2, h3, h4⟩ := offsC_ok h
  obtain ⟨hn, hl, _⟩ := bonded_ok h1
  obtain ⟨hk, hcs⟩ := cycled_ok h4
  have hg := groups_ok (l := l) hn
  have hcb : ∀ c ∈ cs, 1 ≤ c ∧ c ≤ 1048576 := fun c hc => cyc_bound hn.1 (hcs c hc)
  have hab := commonG_bound (g := groupsN n l) hcb
  have hjo : ∀ i, i < n.weds.length → tog l i = true → (groupsN n l).getD (aAt n i) 0 = (groupsN n l).getD (bAt n i) 0 ∧ (commonG (groupsN n l) cs).getD (aAt n i) 1 = (commonG (groupsN n l) cs).getD (bAt n i) 1 := fun i hi ht => by
    have e := groups_joined hn hi ht
    obtain ⟨ha, hb⟩ := joins_lt (l := l) hn hg hi
    rw [hg.len] at ha hb
    exact ⟨e, com_same (by omega) (by omega) e⟩
  have hby : ∀ i, 0 ≤ (wedAt n i).offsets.getD ((votes.getD i (0, 0, 0)).1).toNat 0 := fun i => by
    unfold wedAt
    by_cases hi : i < n.weds.length
    · have hw := (hn.2.2.2.2.2 _ (List.getElem_mem hi)).2.2.2.2.2
      simp only [List.getD_eq_getElem?_getD, List.getElem?_eq_getElem hi, Option.getD_some]
      generalize ((votes[i]?).getD (0, 0, 0)).1.toNat = j
      by_cases hj : j < n.weds[i].offsets.length
      · simp only [List.getElem?_eq_getElem hj, Option.getD_some]
        exact (hw _ (List.getElem_mem hj)).1
      · simp [hj]
    · simp [hi]
  have hbg := bgF_in hn hby hab (fun i hi ht => (hjo i hi ht).2) (bmeas (bg0 n (groupsN n l))) _ (bg0_in hg.len hab)
  have hgr : ∀ i, i < n.subs.length → 0 ≤ (groupsN n l).getD i 0 ∧ (groupsN n l).getD i 0 ≤ (i : Int) ∧ (groupsN n l).getD ((groupsN n l).getD i 0).toNat 0 = (groupsN n l).getD i 0 := fun i hi => by
    have hi' : i < (groupsN n l).length := by rw [hg.len]; exact hi
    have e : (groupsN n l).getD i 0 = (groupsN n l)[i] := by simp [hi']
    rw [e]
    exact ⟨(hg.le i hi').1, (hg.le i hi').2, hg.own i hi'⟩
  refine ⟨hg.len, by rw [commonG_len, hk], hbg.ok.ol, hk, hjo, hgr, fun i hi => ⟨(hbg.ok.le i).1, hbg.lt i hi, fun e => (hbg.rt i hi e).2⟩, fun ha i hi => ?_, fun i k hi hk' he => ⟨com_ge (by omega) (by omega) he, com_same (by omega) (by omega) he⟩, fun i hi => ?_⟩
  · have e := groups_apart (n := n) ha
    have hid : ∀ j, j < n.subs.length → (groupsN n l).getD j 0 = (j : Int) := fun j hj => by
      rw [e]; simp [idK, hj, List.getD_eq_getElem?_getD]
    refine ⟨hid i hi, ?_⟩
    obtain ⟨j, hj, hgj, hcj⟩ := com_ex (g := groupsN n l) (cs := cs) (i := i) (by omega)
    rw [hid j (by omega), hid i hi] at hgj
    have : j = i := by omega
    subst this
    exact hcj
  · obtain ⟨j, hj, hgj, hcj⟩ := com_ex (g := groupsN n l) (cs := cs) (i := i) (by omega)
    exact ⟨j, by omega, hgj, hcj.symm⟩
end Go.Proofs.YtpijmanjjhpkiaaGreatDoor

namespace Go.Proofs.YtpijmanjjhpkiaaGreatDoor
open Go.AM Go.RowKit
set_option maxRecDepth 100000

/-! The document's own answer on sites: small functions. -/
/-! The document's own answer on sites: groups. -/
def rgrpAt (s : Sit) (i : Nat) : Prop := (∀ h : i < s.groups.length, grpOk s.groups[i]) ∧ rowOk s i
def rcells (s : Sit) (a : Nat) : Prop := ∀ b, b < s.groups.length → cellOk s a b
def GroupsOk (s : Sit) : Prop := (0 ≤ s.id ∧ s.id ≤ 65535) ∧ (1 ≤ s.groups.length ∧ s.groups.length ≤ 16) ∧ s.apart.length = s.groups.length ∧ s.between.length = s.groups.length ∧
  (∀ i, i < s.groups.length → rgrpAt s i) ∧ ∀ a, a < s.groups.length → rcells s a
noncomputable instance (s : Sit) : Decidable (GroupsOk s) := Classical.propDecidable _
/-! The document's own answer on sites: what lies between phases. -/
theorem GroupsOk.high {s : Sit} (h : GroupsOk s) (a : Nat) (ha : a < s.groups.length) (b : Nat) (hb : s.groups.length ≤ b) : isAp s a b = false := by
  have hr := (h.2.2.2.2.1 a ha).2.2
  exact Nat.testBit_lt_two_pow (Nat.lt_of_lt_of_le hr (Nat.pow_le_pow_right (by omega) hb))
/-! The document's own answer on sites: phases. -/
/-- The least that a phase's Min may be. -/
def leastK (s : Sit) (A k : Nat) : Int := (List.range k).foldl (fun m a => if A.testBit a = true then maxI m (minGrp s a) else m) 1
theorem leastK_succ (s : Sit) (A k : Nat) : leastK s A (k + 1) = if A.testBit k = true then maxI (leastK s A k) (minGrp s k) else leastK s A k := by
  unfold leastK; rw [List.range_succ, List.foldl_append]; rfl
def noMeet (s : Sit) (A a : Nat) : Prop := A.testBit a = true → ∀ b, b < s.groups.length → A.testBit b = true → isAp s a b = false
/-- May a phase be, as the document says it? -/
def rphaOk (s : Sit) (p : Pha) : Prop := p.set ≠ 0 ∧ p.set < 2 ^ s.groups.length ∧ (∀ a, a < s.groups.length → noMeet s p.set a) ∧
  (leastK s p.set s.groups.length ≤ p.min ∧ p.min ≤ 1048576) ∧ (p.min ≤ p.max ∧ p.max ≤ 1048576) ∧ 1 ≤ p.gap ∧ p.gap ≤ 1048576
def rphaAt (s : Sit) (k : Nat) : Prop := ∀ h : k < s.phases.length, rphaOk s s.phases[k]
def RPhasesOk (s : Sit) : Prop := (1 ≤ s.phases.length ∧ s.phases.length ≤ 8) ∧ (∀ k, k < s.phases.length → rphaAt s k) ∧ popN (allK s s.phases.length) = s.groups.length
noncomputable instance (s : Sit) : Decidable (RPhasesOk s) := Classical.propDecidable _
theorem leastK_le {s : Sit} {A : Nat} {m : Int} : ∀ k, leastK s A k ≤ m ↔ 1 ≤ m ∧ ∀ a, a < k → A.testBit a = true → minGrp s a ≤ m
  | 0 => by simp [leastK]
  | k + 1 => by
    rw [leastK_succ]
    have ih := leastK_le (s := s) (A := A) (m := m) k
    split
    · rename_i h
      have : maxI (leastK s A k) (minGrp s k) ≤ m ↔ leastK s A k ≤ m ∧ minGrp s k ≤ m := by unfold maxI; split <;> omega
      rw [this, ih]
      constructor
      · rintro ⟨⟨h1, h2⟩, h3⟩
        refine ⟨h1, fun a ha hA => ?_⟩
        by_cases e : a = k
        · subst e; exact h3
        · exact h2 a (by omega) hA
      · rintro ⟨h1, h2⟩
        exact ⟨⟨h1, fun a ha hA => h2 a (by omega) hA⟩, h2 k (by omega) h⟩
    · rename_i h
      rw [ih]
      constructor
      · rintro ⟨h1, h2⟩
        refine ⟨h1, fun a ha hA => ?_⟩
        by_cases e : a = k
        · subst e; exact absurd hA h
        · exact h2 a (by omega) hA
      · rintro ⟨h1, h2⟩
        exact ⟨h1, fun a ha hA => h2 a (by omega) hA⟩
/-- The document's conditions on a phase are the program's. -/
theorem rpha_iff {s : Sit} (hG : GroupsOk s) (p : Pha) : rphaOk s p ↔ phaOk s p := by
  obtain ⟨hG1, hG2, hla, hlb, hG5, hG6⟩ := id hG
  unfold rphaOk phaOk
  rw [leastK_le]
  have hin : p.set < 2 ^ s.groups.length → ∀ a, p.set.testBit a = true → a < s.groups.length := fun h a ha => by
    apply Classical.byContradiction
    intro hn
    have : p.set.testBit a = false := Nat.testBit_lt_two_pow (Nat.lt_of_lt_of_le h (Nat.pow_le_pow_right (by omega) (by omega)))
    rw [this] at ha; cases ha
  have hand : ∀ a, a < s.groups.length → ((s.apart.getD a 0 &&& p.set = 0) ↔ ∀ b, b < s.groups.length → p.set.testBit b = true → isAp s a b = false) := fun a ha => by
    constructor
    · intro h b _ hb
      have := congrArg (fun t => t.testBit b) h
      simp only [Nat.testBit_and, Nat.zero_testBit, hb, Bool.and_true] at this
      exact this
    · intro h
      apply Nat.eq_of_testBit_eq
      intro b
      rw [Nat.testBit_and, Nat.zero_testBit]
      cases hb : p.set.testBit b with
      | false => simp
      | true =>
        by_cases hbn : b < s.groups.length
        · have := h b hbn hb
          have e : (s.apart.getD a 0).testBit b = false := this
          rw [e]; rfl
        · have := hG.high a ha b (by omega)
          have e : (s.apart.getD a 0).testBit b = false := this
          rw [e]; rfl
  constructor
  · rintro ⟨h1, h2, h3, ⟨⟨h4, h5⟩, h6⟩, ⟨h7, h8⟩, h9, h10⟩
    refine ⟨h1, h2, ⟨⟨h4, h6⟩, ⟨by omega, h8⟩, h9, h10⟩, h7, fun a ha => ?_⟩
    have han := hin h2 a ha
    exact ⟨h5 a han ha, (hand a han).2 fun b hb hbb => h3 a han ha b hb hbb⟩
  · rintro ⟨h1, h2, ⟨⟨h4, h6⟩, ⟨h8, h8'⟩, h9, h10⟩, h7, h11⟩
    refine ⟨h1, h2, fun a ha hA b hb hB => (hand a ha).1 (h11 a hA).2 b hb hB, ⟨⟨h4, fun a ha hA => (h11 a hA).1⟩, h6⟩, ⟨h7, h8'⟩, h9, h10⟩
/-! The document's own answer on sites: plans; Check. -/
/-! Check -/
theorem groups_site {s : Sit} : SiteOk s ↔ GroupsOk s ∧ RPhasesOk s ∧ s.eyes.length ≤ 24 ∧ s.plans.length ≤ 8 ∧ s.eyes.all (eyeOk s.phases.length) = true ∧ timedN s = true ∧ (s.plans.all fun p => decide (Fits s p)) = true := by
  have hph : GroupsOk s → (∀ k, k < s.phases.length → rphaAt s k) → ∀ k, k < s.phases.length → phaAt s k := fun hG h k hk hh => (rpha_iff hG _).1 (h k hk hh)
  have hph2 : GroupsOk s → (∀ k, k < s.phases.length → phaAt s k) → ∀ k, k < s.phases.length → rphaAt s k := fun hG h k hk hh => (rpha_iff hG _).2 (h k hk hh)
  constructor
  · intro h
    have h0 := h 0 (by omega)
    have h1 := h 1 (by omega)
    have h2 := h 2 (by omega)
    obtain ⟨hid, hg, hla, hlb, hp, he, hl, hrow⟩ := h0
    have hG : GroupsOk s := ⟨hid, hg, hla, hlb, fun i hi => ⟨fun hh => (h1 i hi).1 hh, hrow i (by omega)⟩, fun a ha b hb => (h1 a ha).2 b hb⟩
    exact ⟨hG, ⟨hp, hph2 hG h2.1, h2.2⟩, he, hl, h 3 (by omega), h 4 (by omega), h 5 (by omega)⟩
  · rintro ⟨hG, hR, he, hl, h3, h4, h5⟩
    obtain ⟨hid, hg, hla, hlb, hr, hc⟩ := id hG
    intro i hi
    have hcs : i = 0 ∨ i = 1 ∨ i = 2 ∨ i = 3 ∨ i = 4 ∨ i = 5 := by omega
    rcases hcs with rfl | rfl | rfl | rfl | rfl | rfl
    · exact ⟨hid, hg, hla, hlb, hR.1, he, hl, fun i hi => (hr i (by omega)).2⟩
    · exact fun a ha => ⟨fun hh => (hr a ha).1 hh, fun b hb => hc a ha b hb⟩
    · exact ⟨hph hG hR.2.1, hR.2.2⟩
    · exact h3
    · exact h4
    · exact h5
/-! The document's own answer on sites: Check. -/
end Go.Proofs.YtpijmanjjhpkiaaGreatDoor

namespace Go.Proofs.YtpijmanjjhpkiaaGreatDoor
open Go.AM Go.RowKit
set_option maxRecDepth 100000

/-- The document's way to tell whether a plan fits is the program's. -/
theorem fits_iff {s : Sit} {p : Pln} (hN : NeedsOk s) : Fits s p ↔ (s.low ≤ p.cycle ∧ p.cycle ≤ s.high) ∧ (0 ≤ p.offset ∧ p.offset ≤ p.cycle - 1) ∧ p.splits.length = s.phases.length ∧ (∀ i, ∀ h : i < p.splits.length, needsN s i ≤ p.splits[i] ∧ p.splits[i] ≤ p.cycle) ∧ p.splits.sum = p.cycle := by
  have hl0 : leftK p p.splits.length = p.cycle - p.splits.sum := by unfold leftK; rw [List.take_length]
  constructor
  · rintro ⟨h1, h2, h3, h4, h5⟩
    refine ⟨h1, h2, h3, fun i hi => ?_, by omega⟩
    have hf := h4 i hi
    unfold fitAt at hf
    rw [show p.splits.getD i 0 = p.splits[i] by simp [hi]] at hf
    refine ⟨hf.1, ?_⟩
    have : leftK p i ≤ p.cycle := by
      have : ∀ k, k ≤ p.splits.length → leftK p k ≤ p.cycle := fun k => by
        induction k with
        | zero => intro _; simp [leftK]
        | succ k ih =>
          intro hk
          have := ih (by omega)
          have h6 := h4 k (by omega)
          unfold fitAt at h6
          rw [show p.splits.getD k 0 = p.splits[k]'(by omega) by simp [show k < p.splits.length by omega]] at h6
          have h7 := hN k (by omega)
          rw [leftK_succ p k (by omega)]
          omega
      exact this i (by omega)
    omega
  · rintro ⟨h1, h2, h3, h4, h5⟩
    have key : ∀ k, k ≤ p.splits.length → 0 ≤ leftK p (p.splits.length - k) := fun k => by
      induction k with
      | zero => intro _; rw [Nat.sub_zero, hl0]; omega
      | succ k ih =>
        intro hk
        have h6 := ih (by omega)
        have hlt : p.splits.length - (k + 1) < p.splits.length := by omega
        have h7 := leftK_succ p (p.splits.length - (k + 1)) hlt
        rw [show p.splits.length - (k + 1) + 1 = p.splits.length - k by omega] at h7
        have h8 := h4 _ hlt
        have h9 := hN (p.splits.length - (k + 1)) (by omega)
        omega
    refine ⟨h1, h2, h3, fun i hi => ?_, by rw [hl0]; omega⟩
    unfold fitAt
    rw [show p.splits.getD i 0 = p.splits[i] by simp [hi]]
    refine ⟨(h4 i hi).1, ?_⟩
    have h6 := key (p.splits.length - (i + 1)) (by omega)
    rw [show p.splits.length - (p.splits.length - (i + 1)) = i + 1 by omega, leftK_succ p i hi] at h6
    omega
end Go.Proofs.YtpijmanjjhpkiaaGreatDoor

namespace Go.Proofs.YtpijmanjjhpkiaaGreatDoor
open Go.AM Go.RowKit
set_option maxRecDepth 100000

def shareN (p q : Pln) (l : List Int) (k : Nat) : Int := l.getD k 0 * p.splits.getD k 0 / q.splits.getD k 0
def mostK (p q : Pln) (l : List Int) : Nat → Int
  | 0 => 0
  | k + 1 => maxI (mostK p q l k) (shareN p q l k)
/-- What holds of two plans of one site, and of loads. -/
structure Most2 (p q : Pln) (l : List Int) : Prop where
  len : p.splits.length = q.splits.length
  few : q.splits.length ≤ 1024
  now : ∀ i, ∀ h : i < p.splits.length, 0 ≤ p.splits[i] ∧ p.splits[i] ≤ 1048576
  to : ∀ i, ∀ h : i < q.splits.length, 1 ≤ q.splits[i] ∧ q.splits[i] ≤ 1048576
  loads : ∀ i, ∀ h : i < l.length, 0 ≤ l[i] ∧ l[i] ≤ 65536
theorem Most2.share {p q : Pln} {l : List Int} (h : Most2 p q l) (k : Nat) (h1 : k < q.splits.length) (h2 : k < l.length) :
    ∃ h3 : k < p.splits.length, (0 ≤ l[k] * p.splits[k] ∧ l[k] * p.splits[k] ≤ 68719476736) ∧ (l[k] * p.splits[k]).tdiv q.splits[k] = shareN p q l k ∧ 0 ≤ shareN p q l k ∧ shareN p q l k ≤ 68719476736 := by
  have h3 : k < p.splits.length := by rw [h.len]; exact h1
  have a1 := h.now k h3
  have a2 := h.to k h1
  have a3 := h.loads k h2
  have b0 : 0 ≤ l[k] * p.splits[k] := Int.mul_nonneg a3.1 a1.1
  have b1 : l[k] * p.splits[k] ≤ 65536 * 1048576 := Int.mul_le_mul a3.2 a1.2 a1.1 (by omega)
  have e : shareN p q l k = l[k] * p.splits[k] / q.splits[k] := by unfold shareN; simp [h1, h2, h3]
  refine ⟨h3, ⟨b0, by omega⟩, by rw [e, Int.tdiv_eq_ediv_of_nonneg b0], ?_, ?_⟩
  · rw [e]; exact Int.ediv_nonneg b0 (by omega)
  · rw [e]; have := Int.ediv_le_self q.splits[k] b0; omega

set_option maxHeartbeats 1000000 in
theorem worst26_spec (p q : Pln) (l : List Int) (h : Most2 p q l) : FnD Tryz.prog 152 [plnV p, plnV q, .sl 1 (ints l)] (.int .i64 (mostK p q l (min q.splits.length l.length))) := by
  have hip := ints_pure p.splits
  have hiq := ints_pure q.splits
  have hil := ints_pure l
  unfold plnV
  refine fnD_of mixed Tryz.func152 rfl rfl (by simp [Tryz.ntmps152]) fun hwf E => ?_
  simp (disch := omega) [go_sem, ints_len] at hwf
  simp (disch := omega) [Tryz.ntmps152, go_sem, ints_len]
  refine awz_loop mixed (fun k : Nat => ⟨[(13, .int .i64 k), (12, .int .i64 q.splits.length), (11, .sl 1 (ints q.splits)), (7, .int .i64 (mostK p q l (min k l.length))), (4, .ptr 16 1 0 0), (3, .ptr 0 1 0 0), (2, .sl 1 (ints l)), (6, .int .i64 0)], [(16, ⟨.box, 77, 3, [plnV q]⟩), (0, ⟨.box, 77, 3, [plnV p]⟩)], 128, [], 38, 0, []⟩)
    (fun k => k ≤ q.splits.length ∧ 0 ≤ mostK p q l (min k l.length) ∧ mostK p q l (min k l.length) ≤ 68719476736) (fun k => q.splits.length - k) 0 ⟨by omega, by simp [mostK], by simp [mostK]⟩ ?_ ?_
  · refine Le.mk [(0, some 0), (16, some 16)] [0, 16] ⟨rfl, rfl, rfl⟩ ?_ ?_ ?_ <;> simp [go_sem, plnV, hip, hiq, hil, mostK]
  · rintro k ⟨hk, hb⟩
    simp (disch := omega) [go_sem, plnV, ints_len]
    refine br_of (fun h1 => ?_) (fun h1 => ?_) <;> simp at h1
    · simp (disch := omega) [go_sem, ints_len, nth_ints, h1]
      refine br_of (fun h2 => ?_) (fun h2 => ?_) <;> simp at h2
      · obtain ⟨h3, hm, ht, hs⟩ := h.share k h1 h2
        have em : min k l.length = k := by omega
        have em1 : min (k + 1) l.length = k + 1 := by omega
        rw [em] at hb ⊢
        have a2 := h.to k h1
        have hss : mostK p q l (k + 1) = maxI (mostK p q l k) (shareN p q l k) := rfl
        have hbd : 0 ≤ maxI (mostK p q l k) (shareN p q l k) ∧ maxI (mostK p q l k) (shareN p q l k) ≤ 68719476736 := by unfold maxI; split <;> omega
        have hw : IntKind.i64.wrap ((l[k] * p.splits[k]).tdiv q.splits[k]) = shareN p q l k := by rw [ht]; exact i64_wrap (by omega) (by omega)
        simp (disch := omega) [go_sem, ints_len, nth_ints, h1, h2, h3]
        refine ⟨by omega, .inl (by kernel_rfl), ?_⟩
        refine round_of (k + 1) ⟨by omega, by rw [em1, hss]; exact hbd⟩ (by omega) (Le.mk [(0, some 0), (16, some 16)] [0, 16] ⟨rfl, rfl, rfl⟩ ?_ ?_ ?_) <;> simp [go_sem, plnV, hip, hiq, hil, em1, hss, hw, ht, maxI]
      · have em : min k l.length = l.length := by omega
        have em1 : min (k + 1) l.length = l.length := by omega
        rw [em] at hb ⊢
        simp (disch := omega) [go_sem]
        refine round_of (k + 1) ⟨by omega, by rw [em1]; exact hb⟩ (by omega) (Le.mk [(0, some 0), (16, some 16)] [0, 16] ⟨rfl, rfl, rfl⟩ ?_ ?_ ?_) <;> simp [go_sem, plnV, hip, hiq, hil, em1]
    · have hkl : k = q.splits.length := by omega
      subst hkl
      simp (disch := omega) [go_sem]
/-! the errors of loads -/
def fixI (x : Int) : Bool := decide (0 ≤ x) && decide (x ≤ 65536)
theorem loaded1_spec (x : Int) : FnD Tryz.prog 166 [.int .i64 x] (.bool (!fixI x)) := by
  refine fnD_of mixed Tryz.func166 rfl rfl (by simp [Tryz.ntmps166]) fun hwf E => ?_
  simp (disch := omega) [Tryz.ntmps166, go_sem, fixI]
  rw [Bool.eq_iff_iff]
  simp
  try omega
theorem indexFunc_i64 (l : List Int) (g : FuncId) (fst caps : List V) (q : Int → Bool) (hpf : pures fst) (hpc : pures caps) (hq : ∀ x ∈ l, FnD Tryz.prog g (fst ++ [.int .i64 x] ++ caps) (.bool (q x))) :
    FnD Tryz.prog 173 [.sl 1 (ints l), .func (.func g) fst caps] (.int .i64 (findQ l q)) := by
  have yes : ∀ k (h : k < l.length), (∀ j (hj : j < l.length), j < k → q l[j] = false) → q l[k] = true → (findQ l q) = k := by
    intro k h hno hk
    have : l.findIdx? q = some k := by
      rw [List.findIdx?_eq_some_iff_getElem]
      exact ⟨h, hk, fun j hj => by simp [hno j (by omega) hj]⟩
    simp [findQ, this]
  have no : (∀ j (hj : j < l.length), q l[j] = false) → (findQ l q) = -1 := by
    intro hno
    have : l.findIdx? q = none := by
      rw [List.findIdx?_eq_none_iff]
      intro x hx
      obtain ⟨j, hj, rfl⟩ := List.getElem_of_mem hx
      exact hno j hj
    simp [findQ, this]
  generalize (findQ l q) = res at *
  refine fnD_of mixed Tryz.func173 rfl rfl (by simp [Tryz.ntmps173]) fun hwf E => ?_
  simp (disch := omega) [go_sem, ints_len] at hwf
  simp (disch := omega) [Tryz.ntmps173, go_sem, ints_len]
  refine awz_loop mixed (fun k : Nat => ⟨[(0, .sl 1 (ints l)), (1, .func (.func g) fst caps), (7, .int .i64 l.length), (8, .int .i64 k), (4, .int .i64 0)], [], 1024, [], 19, 0, []⟩)
    (fun k => k ≤ l.length ∧ ∀ j (hj : j < l.length), j < k → q l[j] = false) (fun k => l.length - k) 0 (by simp) ?_ ?_
  · refine Le.mk [] [] ⟨rfl, rfl, rfl⟩ ?_ ?_ ?_ <;> simp [go_sem, vsLe_self, hpf, hpc, ints_pure]
  · rintro k ⟨hk, hno⟩
    simp (disch := omega) [go_sem]
    refine br_of (fun h => ?_) (fun h => ?_) <;> simp at h
    · have hm : l[k] ∈ l := List.getElem_mem h
      simp (disch := omega) [go_sem, h, ints_len, nth_ints]
      refine callK_data (hq _ hm) [] ?_ (.inl rfl) (by simp [go_sem]) fun hw => ?_
      · simp (disch := omega) [go_sem]
        have ha := argsLe_self (hp := AM.look []) (B := fun i => i ∈ ([] : List Nat)) (n := 8) (xs := fst ++ [.int .i64 l[k]] ++ caps) (by simp [go_sem, hpf, hpc])
        simpa [AM.look] using ha
      · simp (disch := omega) [go_sem]
        refine br_of (fun h2 => ?_) (fun h2 => ?_)
        · simp (disch := omega) [go_sem]
          exact (yes k h hno h2).symm
        · simp (disch := omega) [go_sem]
          refine round_of (k + 1) ⟨h, fun j hj hk' => ?_⟩ (by omega) (Le.mk [] [] ⟨rfl, rfl, rfl⟩ ?_ ?_ ?_)
          · by_cases e : j = k
            · subst e; exact h2
            · exact hno j hj (by omega)
          all_goals simp (disch := omega) [go_sem, vsLe_self, hpf, hpc, ints_pure]
    · simp (disch := omega) [go_sem]
      exact (no fun j hj => hno j hj (by omega)).symm
theorem containsFunc_i64 (l : List Int) (g : FuncId) (fst caps : List V) (q : Int → Bool) (hpf : pures fst) (hpc : pures caps) (hq : ∀ x ∈ l, FnD Tryz.prog g (fst ++ [.int .i64 x] ++ caps) (.bool (q x))) :
    FnD Tryz.prog 165 [.sl 1 (ints l), .func (.func g) fst caps] (.bool (l.any q)) := by
  refine fnD_of mixed Tryz.func165 rfl rfl (by simp [Tryz.ntmps165]) fun hwf E => ?_
  simp (disch := omega) [Tryz.ntmps165, go_sem] at hwf ⊢
  refine callK_data (indexFunc_i64 l g fst caps q hpf hpc hq) [] ?_ (.inl rfl) (by simp [go_sem]) fun hw => ?_
  · simp [go_sem, hpf, hpc, ints_pure]
  · simp (disch := omega) [go_sem]
    simpa using find_any l q


def loadedN (l : List Int) : Int := if 1024 < l.length then 4 else if l.any (fun x => !fixI x) then 2 else 0
theorem loadedN_many {l : List Int} (h : 1024 < l.length) : loadedN l = 4 := by unfold loadedN; rw [if_pos h]
theorem loadedN_of {l : List Int} (h : ¬ 1024 < l.length) : loadedN l = if l.any (fun x => !fixI x) then 2 else 0 := by unfold loadedN; rw [if_neg h]
theorem loadedN_ok {l : List Int} (h : ¬ 1024 < l.length) (h2 : ∀ i, ∀ h : i < l.length, fixI l[i] = true) : loadedN l = 0 := by
  rw [loadedN_of h, if_neg]
  rw [Bool.not_eq_true, List.any_eq_false]
  intro x hx
  obtain ⟨i, hi, rfl⟩ := List.getElem_of_mem hx
  simp [h2 i hi]
theorem loadedN_bad {l : List Int} (h : ¬ 1024 < l.length) (k : Nat) (hk : k < l.length) (h2 : fixI l[k] = false) : loadedN l = 2 := by
  rw [loadedN_of h, if_pos]
  exact List.any_eq_true.2 ⟨_, List.getElem_mem hk, by simp [h2]⟩
theorem loadedN_zero {l : List Int} (h : loadedN l = 0) : l.length ≤ 1024 ∧ ∀ i, ∀ h : i < l.length, 0 ≤ l[i] ∧ l[i] ≤ 65536 := by
  by_cases h1 : 1024 < l.length
  · rw [loadedN_many h1] at h; cases h
  · refine ⟨by omega, fun i hi => ?_⟩
    by_cases h2 : fixI l[i] = true
    · simpa [fixI] using h2
    · rw [loadedN_bad h1 i hi (by simpa using h2)] at h; cases h
theorem loaded_spec (l : List Int) : FnD Tryz.prog 151 [.sl 1 (ints l)] (.int .i64 (loadedN l)) := by
  refine fnD_of mixed Tryz.func151 rfl rfl (by simp [Tryz.ntmps151]) fun hwf E => ?_
  simp (disch := omega) [go_sem, ints_len] at hwf
  simp (disch := omega) [Tryz.ntmps151, go_sem, ints_len]
  refine br_of (fun h1 => ?_) (fun h1 => ?_) <;> simp at h1
  · rw [loadedN_many (by omega)]
    simp (disch := omega) [go_sem]
  · have e1 : ¬ 1024 < l.length := by omega
    have hc := containsFunc_i64 l 166 [] [] (fun x => !fixI x) (by simp [go_sem]) (by simp [go_sem]) (fun x _ => by simpa using loaded1_spec x)
    rw [loadedN_of e1]
    generalize (l.any fun x => !fixI x) = b at *
    simp (disch := omega) [go_sem]
    refine callK_data hc [] (by simp [go_sem, ints_pure]) (.inl rfl) (by simp [go_sem]) (fun _ => ?_)
    simp (disch := omega) [go_sem]
    refine br_of (fun h2 => ?_) (fun h2 => ?_)
    · rw [if_pos h2]
      simp (disch := omega) [go_sem]
    · rw [if_neg (by rw [h2]; simp)]
      simp (disch := omega) [go_sem]
/-! two plans of one site -/
theorem most2_of {s : Sit} {p q : Pln} {l : List Int} (hOk : SiteOk s) (hp : Fits s p) (hq : Fits s q) (hl : loadedN l = 0) : Most2 p q l := by
  have hN := hOk.needs
  have hL := hOk.low
  have hP : PhasedOk s := hOk.phased
  obtain ⟨a1, a2, a3, a4, a5⟩ := (fits_iff hN).1 hp
  obtain ⟨b1, b2, b3, b4, b5⟩ := (fits_iff hN).1 hq
  have hz := loadedN_zero hl
  have h8 : s.phases.length ≤ 8 := (groups_site.1 hOk).2.1.1.2
  refine ⟨by omega, by omega, fun i hi => ?_, fun i hi => ?_, hz.2⟩
  · have := a4 i hi
    have := hN i (by omega)
    omega
  · have := b4 i hi
    have h1 := hP.1 i (by omega) (by omega)
    have h2 : 1 ≤ minAt s i := by
      have := h1.2.2.1.1.1
      simp only [minAt]
      rw [List.getElem?_eq_getElem (by omega : i < s.phases.length)]
      simpa using this
    have h3 : needsN s i = minAt s i + clearN s i ((i + 1) % s.phases.length) := rfl
    have h4 : 0 ≤ clearN s i ((i + 1) % s.phases.length) := (clear_bound s hOk.shaped hOk.apart i _).1
    omega

/-! the law -/
end Go.Proofs.YtpijmanjjhpkiaaGreatDoor

namespace Go.Proofs.YtpijmanjjhpkiaaGreatDoor
open Go.AM Go.RowKit
set_option maxRecDepth 100000

theorem lfixed_spec (x : Int) : FnD Tryz.prog 71 [.int .i64 x] (.bool (fixI x)) := by
  refine fnD_of mixed Tryz.func71 rfl rfl (by simp [Tryz.ntmps71]) fun hwf E => ?_
  simp (disch := omega) [Tryz.ntmps71, go_sem, fixI]
theorem high1_spec (a b : Int) : FnD Tryz.prog 109 [.int .i64 a, .int .i64 b] (.bool (decide (b < a))) := by
  refine fnD_of mixed Tryz.func109 rfl rfl (by simp [Tryz.ntmps109]) fun hwf E => ?_
  simp (disch := omega) [Tryz.ntmps109, go_sem]
/-- The first greatest one. -/
def hiK (l : List Int) : Nat → Int
  | 0 => -1
  | k + 1 => if hiK l k < 0 ∨ l.getD (hiK l k).toNat 0 < l.getD k 0 then k else hiK l k
theorem hiK_bound (l : List Int) : ∀ k, -1 ≤ hiK l k ∧ hiK l k < k ∧ (1 ≤ k → 0 ≤ hiK l k)
  | 0 => by simp [hiK]
  | k + 1 => by
    have ih := hiK_bound l k
    unfold hiK
    split
    · omega
    · rename_i h
      rw [not_or] at h
      omega
theorem best_spec (l : List Int) : FnD Tryz.prog 108 [.sl 1 (ints l), .func (.func 109) [] []] (.int .i64 (hiK l l.length)) := by
  have hil := ints_pure l
  refine fnD_of mixed Tryz.func108 rfl rfl (by simp [Tryz.ntmps108]) fun hwf E => ?_
  simp (disch := omega) [go_sem, ints_len] at hwf
  simp (disch := omega) [Tryz.ntmps108, go_sem, ints_len]
  refine awz_loop mixed (fun k : Nat => ⟨[(10, .int .i64 k), (9, .int .i64 l.length), (8, .sl 1 (ints l)), (5, .int .i64 (hiK l k)), (1, .func (.func 109) [] []), (0, .sl 1 (ints l))], [], 1024, [], 29, 0, []⟩)
    (fun k => k ≤ l.length) (fun k => l.length - k) 0 (by omega) ?_ ?_
  · refine Le.mk [] [] ⟨rfl, rfl, rfl⟩ ?_ ?_ ?_ <;> simp [go_sem, hil, hiK]
  · intro k hk
    have hb := hiK_bound l k
    simp (disch := omega) [go_sem]
    refine br_of (fun h => ?_) (fun h => ?_) <;> simp at h
    · have hs : hiK l (k + 1) = if hiK l k < 0 ∨ l.getD (hiK l k).toNat 0 < l.getD k 0 then (k : Int) else hiK l k := rfl
      have hgk : l.getD k 0 = l[k] := by simp [h]
      rw [hgk] at hs
      by_cases hn : hiK l k < 0
      · rw [if_pos (.inl hn)] at hs
        simp (disch := omega) [go_sem, ints_len, nth_ints, h, hn]
        refine round_of (k + 1) (by omega) (by omega) (Le.mk [] [] ⟨rfl, rfl, rfl⟩ ?_ ?_ ?_) <;> simp [go_sem, hil, hs]
      · have ht : (hiK l k).toNat < l.length := by omega
        have hgt : l.getD (hiK l k).toNat 0 = l[(hiK l k).toNat] := by simp [ht]
        rw [hgt] at hs
        simp (disch := omega) [go_sem, ints_len, nth_ints, h, hn, ht]
        refine ⟨by omega, ?_⟩
        refine callK_bool (high1_spec l[k] l[(hiK l k).toNat]) [] (by simp [go_sem]) (fun h1 => ?_) (fun h1 => ?_)
        · simp at h1
          rw [if_pos (.inr h1)] at hs
          simp (disch := omega) [go_sem, hn]
          refine round_of (k + 1) (by omega) (by omega) (Le.mk [] [] ⟨rfl, rfl, rfl⟩ ?_ ?_ ?_) <;> simp [go_sem, hil, hs]
        · simp at h1
          rw [if_neg (by omega)] at hs
          simp (disch := omega) [go_sem, hn]
          refine round_of (k + 1) (by omega) (by omega) (Le.mk [] [] ⟨rfl, rfl, rfl⟩ ?_ ?_ ?_) <;> simp [go_sem, hil, hs]
    · have hkl : k = l.length := by omega
      subst hkl
      simp (disch := omega) [go_sem]

def highI (l : List Int) : Int := if loadedN l = 0 then hiK l l.length else 0
def highX (l : List Int) : Int := if loadedN l = 0 ∧ l ≠ [] then l.getD (hiK l l.length).toNat 0 else 0
theorem highest_spec (l : List Int) : FnD Tryz.prog 60 [.sl 1 (ints l)] (.tup [.int .i64 (highI l), .int .i64 (highX l), .int .i64 (loadedN l)]) := by
  have hil := ints_pure l
  have qb := best_spec l
  have hb := hiK_bound l l.length
  refine fnD_of mixed Tryz.func60 rfl rfl (by simp [Tryz.ntmps60]) fun hwf E => ?_
  simp (disch := omega) [go_sem, ints_len] at hwf
  simp (disch := omega) [Tryz.ntmps60, go_sem, ints_len]
  refine br_of (fun h1 => ?_) (fun h1 => ?_) <;> simp at h1
  · have e := loadedN_many (l := l) (by omega)
    have e1 : highI l = 0 := by unfold highI; rw [if_neg (by rw [e]; decide)]
    have e2 : highX l = 0 := by unfold highX; rw [if_neg (fun x => by rw [e] at x; exact absurd x.1 (by decide))]
    rw [e, e1, e2]
    simp (disch := omega) [go_sem]
  · have en : ¬ 1024 < l.length := by omega
    simp (disch := omega) [go_sem]
    refine awz_loop mixed (fun k : Nat => ⟨[(13, .int .i64 k), (12, .int .i64 l.length), (11, .sl 1 (ints l)), (0, .sl 1 (ints l))], [], 1024, [], 30, 0, []⟩)
      (fun k => k ≤ l.length ∧ ∀ i, ∀ h : i < l.length, i < k → fixI l[i] = true) (fun k => l.length - k) 0 ⟨by omega, fun i _ h => by omega⟩ ?_ ?_
    · refine Le.mk [] [] ⟨rfl, rfl, rfl⟩ ?_ ?_ ?_ <;> simp [go_sem, hil, ints_len]
    · rintro k ⟨hk, hno⟩
      simp (disch := omega) [go_sem]
      refine br_of (fun h => ?_) (fun h => ?_) <;> simp at h
      · simp (disch := omega) [go_sem, ints_len, nth_ints, h]
        refine callK_bool (lfixed_spec l[k]) [] (by simp [go_sem]) (fun h2 => ?_) (fun h2 => ?_)
        · simp (disch := omega) [go_sem]
          refine round_of (k + 1) ⟨by omega, fun i hi hik => ?_⟩ (by omega) (Le.mk [] [] ⟨rfl, rfl, rfl⟩ ?_ ?_ ?_)
          · by_cases e : i = k
            · subst e; exact h2
            · exact hno i hi (by omega)
          all_goals simp [go_sem, hil]
        · have e := loadedN_bad en k h h2
          have e1 : highI l = 0 := by unfold highI; rw [if_neg (by rw [e]; decide)]
          have e2 : highX l = 0 := by unfold highX; rw [if_neg (fun x => by rw [e] at x; exact absurd x.1 (by decide))]
          rw [e, e1, e2]
          simp (disch := omega) [go_sem]
      · have hkl : k = l.length := by omega
        subst hkl
        have e := loadedN_ok en fun i hi => hno i hi hi
        have e1 : highI l = hiK l l.length := by unfold highI; rw [if_pos e]
        have e2 : highX l = if l ≠ [] then l.getD (hiK l l.length).toNat 0 else 0 := by unfold highX; simp [e]
        rw [e, e1, e2]
        simp (disch := omega) [go_sem]
        refine callK_data qb [] (by simp [go_sem, hil]) (.inl rfl) (by simp [go_sem]) (fun _ => ?_)
        simp (disch := omega) [go_sem]
        by_cases h0 : l = []
        · subst h0
          simp (disch := omega) [go_sem, hiK, ints]
        · have h1 : 1 ≤ l.length := List.length_pos_iff.2 h0
          have h2 := hb.2.2 h1
          have h3 : (hiK l l.length).toNat < l.length := by omega
          have hg : l.getD (hiK l l.length).toNat 0 = l[(hiK l l.length).toNat] := by simp [h3]
          simp (disch := omega) [go_sem, h0, ints_len, nth_ints, h3, show ¬ hiK l l.length < 0 by omega]
          exact ⟨by omega, .inl (by kernel_rfl)⟩
end Go.Proofs.YtpijmanjjhpkiaaGreatDoor

namespace Go.Proofs.YtpijmanjjhpkiaaGreatDoor
open Go.AM Go.RowKit
set_option maxRecDepth 100000

/-- The first of a list that is so. -/
def findA {α : Type} (l : List α) (q : α → Bool) : Int := match l.findIdx? q with | some i => i | none => -1
theorem findA_yes {α : Type} {l : List α} {q : α → Bool} (k : Nat) (h : k < l.length) (hno : ∀ j (hj : j < l.length), j < k → q l[j] = false) (hk : q l[k] = true) : findA l q = k := by
  have : l.findIdx? q = some k := by
    rw [List.findIdx?_eq_some_iff_getElem]
    exact ⟨h, hk, fun j hj => by simp [hno j (by omega) hj]⟩
  simp [findA, this]
theorem findA_no {α : Type} {l : List α} {q : α → Bool} (hno : ∀ j (hj : j < l.length), q l[j] = false) : findA l q = -1 := by
  have : l.findIdx? q = none := by
    rw [List.findIdx?_eq_none_iff]
    intro x hx
    obtain ⟨j, hj, rfl⟩ := List.getElem_of_mem hx
    exact hno j hj
  simp [findA, this]
theorem findA_bound {α : Type} (l : List α) (q : α → Bool) : -1 ≤ findA l q ∧ findA l q < l.length := by
  unfold findA
  split
  · rename_i i h
    obtain ⟨h1, _⟩ := List.findIdx?_eq_some_iff_getElem.1 h
    omega
  · omega
theorem indexFunc_subs (l : List SubN) (g : FuncId) (caps : List V) (q : SubN → Bool) (hpc : pures caps) (hq : ∀ x ∈ l, FnD Tryz.prog g ([subV x] ++ caps) (.bool (q x))) :
    FnD Tryz.prog 49 [.sl 2 (l.map subV), .func (.func g) [] caps] (.int .i64 (findA l q)) := by
  have hpl := subs_pure l
  refine fnD_of mixed Tryz.func49 rfl rfl (by simp [Tryz.ntmps49]) fun hwf E => ?_
  simp (disch := omega) [go_sem] at hwf
  simp (disch := omega) [Tryz.ntmps49, go_sem]
  refine awz_loop mixed (fun k : Nat => ⟨[(0, .sl 2 (l.map subV)), (1, .func (.func g) [] caps), (7, .int .i64 l.length), (8, .int .i64 k), (4, .int .i64 0)], [], 1024, [], 19, 0, []⟩)
    (fun k => k ≤ l.length ∧ ∀ j (hj : j < l.length), j < k → q l[j] = false) (fun k => l.length - k) 0 (by simp) ?_ ?_
  · refine Le.mk [] [] ⟨rfl, rfl, rfl⟩ ?_ ?_ ?_ <;> simp [go_sem, vsLe_self, hpc, hpl]
  · rintro k ⟨hk, hno⟩
    simp (disch := omega) [go_sem]
    refine br_of (fun h => ?_) (fun h => ?_) <;> simp at h
    · have hm : l[k] ∈ l := List.getElem_mem h
      have hnt : nth (l.map subV) k = subV l[k] := nth_map h
      have hpt : partV Tryz.prog 84 (subV l[k]) 0 = some (subV l[k]) := rfl
      simp (disch := omega) [go_sem, h, hnt, hpt]
      refine callK_data (hq _ hm) [] ?_ (.inl rfl) (by simp [go_sem]) fun hw => ?_
      · simp (disch := omega) [go_sem]
        have hpx : (subV l[k]).pure := by simp [subV, go_sem, ints_pure]
        have ha := argsLe_self (hp := AM.look []) (B := fun i => i ∈ ([] : List Nat)) (n := 8) (xs := [subV l[k]]) (by simp [go_sem, hpx])
        simpa [AM.look, all2] using ha
      · simp (disch := omega) [go_sem]
        refine br_of (fun h2 => ?_) (fun h2 => ?_)
        · simp (disch := omega) [go_sem]
          exact (findA_yes k h hno h2).symm
        · simp (disch := omega) [go_sem]
          refine round_of (k + 1) ⟨h, fun j hj hk' => ?_⟩ (by omega) (Le.mk [] [] ⟨rfl, rfl, rfl⟩ ?_ ?_ ?_)
          · by_cases e : j = k
            · subst e; exact h2
            · exact hno j hj (by omega)
          all_goals simp (disch := omega) [go_sem, vsLe_self, hpc, hpl]
    · simp (disch := omega) [go_sem]
      exact (findA_no fun j hj => hno j hj (by omega)).symm
theorem indexFunc_sits (l : List Sit) (g : FuncId) (caps : List V) (q : Sit → Bool) (hpc : pures caps) (hq : ∀ x ∈ l, FnD Tryz.prog g ([sitV x] ++ caps) (.bool (q x))) :
    FnD Tryz.prog 69 [.sl 12 (l.map sitV), .func (.func g) [] caps] (.int .i64 (findA l q)) := by
  have hpl := sits_pure l
  refine fnD_of mixed Tryz.func69 rfl rfl (by simp [Tryz.ntmps69]) fun hwf E => ?_
  simp (disch := omega) [go_sem] at hwf
  simp (disch := omega) [Tryz.ntmps69, go_sem]
  refine awz_loop mixed (fun k : Nat => ⟨[(0, .sl 12 (l.map sitV)), (1, .func (.func g) [] caps), (7, .int .i64 l.length), (8, .int .i64 k), (4, .int .i64 0)], [], 1024, [], 19, 0, []⟩)
    (fun k => k ≤ l.length ∧ ∀ j (hj : j < l.length), j < k → q l[j] = false) (fun k => l.length - k) 0 (by simp) ?_ ?_
  · refine Le.mk [] [] ⟨rfl, rfl, rfl⟩ ?_ ?_ ?_ <;> simp [go_sem, vsLe_self, hpc, hpl]
  · rintro k ⟨hk, hno⟩
    simp (disch := omega) [go_sem]
    refine br_of (fun h => ?_) (fun h => ?_) <;> simp at h
    · have hm : l[k] ∈ l := List.getElem_mem h
      have hnt : nth (l.map sitV) k = sitV l[k] := nth_map h
      have hpt : partV Tryz.prog 75 (sitV l[k]) 0 = some (sitV l[k]) := rfl
      simp (disch := omega) [go_sem, h, hnt, hpt]
      refine callK_data (hq _ hm) [] ?_ (.inl rfl) (by simp [go_sem]) fun hw => ?_
      · simp (disch := omega) [go_sem]
        have hpx : (sitV l[k]).pure := sit_pure _
        have ha := argsLe_self (hp := AM.look []) (B := fun i => i ∈ ([] : List Nat)) (n := 8) (xs := [sitV l[k]]) (by simp [go_sem, hpx])
        simpa [AM.look, all2] using ha
      · simp (disch := omega) [go_sem]
        refine br_of (fun h2 => ?_) (fun h2 => ?_)
        · simp (disch := omega) [go_sem]
          exact (findA_yes k h hno h2).symm
        · simp (disch := omega) [go_sem]
          refine round_of (k + 1) ⟨h, fun j hj hk' => ?_⟩ (by omega) (Le.mk [] [] ⟨rfl, rfl, rfl⟩ ?_ ?_ ?_)
          · by_cases e : j = k
            · subst e; exact h2
            · exact hno j hj (by omega)
          all_goals simp (disch := omega) [go_sem, vsLe_self, hpc, hpl]
    · simp (disch := omega) [go_sem]
      exact (findA_no fun j hj => hno j hj (by omega)).symm

theorem sub1_spec (u : SubN) (x : Int) : FnD Tryz.prog 50 [subV u, .tptr 1 [.int .i64 x] 0 0] (.bool (decide (x ∈ u.sites))) := by
  unfold subV
  refine fnD_of mixed Tryz.func50 rfl rfl (by simp [Tryz.ntmps50]) fun hwf E => ?_
  simp (disch := omega) [Tryz.ntmps50, go_sem]
  refine callK_data (contains_spec u.sites x) [] (by simp [go_sem, ints_pure]) (.inl rfl) (by simp [go_sem]) fun hw => ?_
  simp (disch := omega) [go_sem]
theorem site1_spec (s : Sit) (x : Int) : FnD Tryz.prog 70 [sitV s, .tptr 1 [.int .i64 x] 0 0] (.bool (s.id == x)) := by
  unfold sitV
  refine fnD_of mixed Tryz.func70 rfl rfl (by simp [Tryz.ntmps70]) fun hwf E => ?_
  simp (disch := omega) [Tryz.ntmps70, go_sem]

def subN (n : NetN) (x : Int) : Int := findA n.subs fun u => decide (x ∈ u.sites)
def placeS (n : NetN) (x : Int) : Int := findA n.sites fun s => s.id == x

set_option maxHeartbeats 1000000 in
theorem nsub_spec (n : NetN) (x : Int) : FnD Tryz.prog 24 [netV n, .int .i64 x] (.tup [.int .i64 (if NetOk n ∧ 0 ≤ subN n x then subN n x else 0), .int .i64 (if NetOk n then (if 0 ≤ subN n x then 0 else 2) else 60)]) tabG := by
  have hpu := (⟨sits_pure n.sites, subs_pure n.subs, weds_pure n.weds⟩ : _ ∧ _ ∧ _)
  obtain ⟨hp1, hp2, hp3⟩ := hpu
  have hc := ncheck_spec n
  have hi := indexFunc_subs n.subs 50 [.tptr 1 [.int .i64 x] 0 0] (fun u => decide (x ∈ u.sites)) (by simp [go_sem]) (fun u _ => by simpa using sub1_spec u x)
  have hb := findA_bound n.subs (fun u => decide (x ∈ u.sites))
  have hnv : netV n = .agg [.sl 12 (n.sites.map sitV), .sl 2 (n.subs.map subV), .sl 4 (n.weds.map wedV), .int .i64 n.low, .int .i64 n.high, .int .i64 n.step] := rfl
  unfold subN
  generalize findA n.subs (fun u => decide (x ∈ u.sites)) = r at *
  rw [hnv] at hc ⊢
  refine fnD_of mixed Tryz.func24 rfl rfl (by simp [Tryz.ntmps24]) fun hwf E => ?_
  simp (disch := omega) [go_sem] at hwf
  simp (disch := omega) [Tryz.ntmps24, go_sem]
  refine callK_data hc [] (by simp [go_sem, hp1, hp2, hp3]) (.inl rfl) (by simp [go_sem]) (fun _ => ?_) (by simp [tabG, go_sem])
  by_cases hOk : NetOk n
  · rw [netN_ok hOk]
    simp (disch := omega) [go_sem, hOk]
    refine callK_data hi [16] (by simp [go_sem, hp1, hp2, hp3]) (.inr (by simp [go_sem])) (by simp [go_sem]) (fun _ => ?_)
    simp (disch := omega) [go_sem, hOk]
    refine br_of (fun h1 => ?_) (fun h1 => ?_) <;> simp at h1
    · have e1 : ¬ 0 ≤ r := by omega
      simp (disch := omega) [go_sem, e1]
    · have e1 : 0 ≤ r := by omega
      simp (disch := omega) [go_sem, e1]
  · rw [netN_bad hOk]
    simp (disch := omega) [go_sem, hOk]

set_option maxHeartbeats 1000000 in
theorem nsite_spec (n : NetN) (x : Int) : FnD Tryz.prog 34 [netV n, .int .i64 x] (.tup [.int .i64 (if NetOk n ∧ 0 ≤ placeS n x then placeS n x else 0), .int .i64 (if NetOk n then (if 0 ≤ placeS n x then 0 else 2) else 60)]) tabG := by
  have hpu := (⟨sits_pure n.sites, subs_pure n.subs, weds_pure n.weds⟩ : _ ∧ _ ∧ _)
  obtain ⟨hp1, hp2, hp3⟩ := hpu
  have hc := ncheck_spec n
  have hi := indexFunc_sits n.sites 70 [.tptr 1 [.int .i64 x] 0 0] (fun s => s.id == x) (by simp [go_sem]) (fun u _ => by simpa using site1_spec u x)
  have hb := findA_bound n.sites (fun s => s.id == x)
  have hnv : netV n = .agg [.sl 12 (n.sites.map sitV), .sl 2 (n.subs.map subV), .sl 4 (n.weds.map wedV), .int .i64 n.low, .int .i64 n.high, .int .i64 n.step] := rfl
  unfold placeS
  generalize findA n.sites (fun s => s.id == x) = r at *
  rw [hnv] at hc ⊢
  refine fnD_of mixed Tryz.func34 rfl rfl (by simp [Tryz.ntmps34]) fun hwf E => ?_
  simp (disch := omega) [go_sem] at hwf
  simp (disch := omega) [Tryz.ntmps34, go_sem]
  refine callK_data hc [] (by simp [go_sem, hp1, hp2, hp3]) (.inl rfl) (by simp [go_sem]) (fun _ => ?_) (by simp [tabG, go_sem])
  by_cases hOk : NetOk n
  · rw [netN_ok hOk]
    simp (disch := omega) [go_sem, hOk]
    refine callK_data hi [16] (by simp [go_sem, hp1, hp2, hp3]) (.inr (by simp [go_sem])) (by simp [go_sem]) (fun _ => ?_)
    simp (disch := omega) [go_sem, hOk]
    refine br_of (fun h1 => ?_) (fun h1 => ?_) <;> simp at h1
    · have e1 : ¬ 0 ≤ r := by omega
      simp (disch := omega) [go_sem, e1]
    · have e1 : 0 ≤ r := by omega
      simp (disch := omega) [go_sem, e1]
  · rw [netN_bad hOk]
    simp (disch := omega) [go_sem, hOk]
end Go.Proofs.YtpijmanjjhpkiaaGreatDoor

namespace Go.Proofs.YtpijmanjjhpkiaaGreatDoor
open Go.AM Go.RowKit
set_option maxRecDepth 100000

noncomputable def owedE (n : NetN) (w : Int) : Int := if NetOk n then (if 0 ≤ w ∧ w < n.weds.length then 0 else 2) else 60
theorem owedE_zero {n : NetN} {w : Int} (h : owedE n w = 0) : NetOk n ∧ 0 ≤ w ∧ w < n.weds.length := by
  unfold owedE at h
  by_cases h1 : NetOk n
  · rw [if_pos h1] at h
    by_cases h2 : 0 ≤ w ∧ w < n.weds.length
    · exact ⟨h1, h2⟩
    · rw [if_neg h2] at h; cases h
  · rw [if_neg h1] at h; cases h
theorem owed_spec (n : NetN) (w : Int) : FnD Tryz.prog 148 [netV n, .int .i64 w] (.int .i64 (owedE n w)) tabG := by
  have hp1 := sits_pure n.sites
  have hp2 := subs_pure n.subs
  have hp3 := weds_pure n.weds
  have hc := ncheck_spec n
  have hnv : netV n = .agg [.sl 12 (n.sites.map sitV), .sl 2 (n.subs.map subV), .sl 4 (n.weds.map wedV), .int .i64 n.low, .int .i64 n.high, .int .i64 n.step] := rfl
  rw [hnv] at hc ⊢
  refine fnD_of mixed Tryz.func148 rfl rfl (by simp [Tryz.ntmps148]) fun hwf E => ?_
  simp (disch := omega) [Tryz.ntmps148, go_sem]
  refine callK_data hc [] (by simp [go_sem, hp1, hp2, hp3]) (.inl rfl) (by simp [go_sem]) (fun _ => ?_) (by simp [tabG, go_sem])
  unfold owedE
  by_cases hOk : NetOk n
  · rw [if_pos hOk, netN_ok hOk]
    by_cases h0 : w < 0
    · rw [if_neg (by omega)]
      simp (disch := omega) [go_sem, h0]
    · by_cases h1 : (n.weds.length : Int) ≤ w
      · rw [if_neg (by omega)]
        simp (disch := omega) [go_sem, h0, h1]
      · rw [if_pos (by omega)]
        simp (disch := omega) [go_sem, h0, h1]
  · rw [if_neg hOk, netN_bad hOk]
    simp (disch := omega) [go_sem]

/-- A wed's plans. -/
def offsN (n : NetN) (w : Int) : List Int := ((n.weds[w.toNat]?).map WedN.offsets).getD []
theorem offs_at {n : NetN} {w : Nat} (h : w < n.weds.length) : offsN n w = n.weds[w].offsets := by simp [offsN, h]
noncomputable def votedE (n : NetN) (w : Int) (v : Int × Int × Int) : Int := if owedE n w = 0 then (if (0 ≤ v.1 ∧ v.1 < (offsN n w).length) ∧ inM v.2.1 = true ∧ inM v.2.2 = true then 0 else 2) else owedE n w
set_option maxHeartbeats 1000000 in
theorem voted_spec (n : NetN) (w : Int) (v : Int × Int × Int) : FnD Tryz.prog 113 [netV n, .int .i64 w, voteV v] (.int .i64 (votedE n w v)) tabG := by
  have hp1 := sits_pure n.sites
  have hp2 := subs_pure n.subs
  have hp3 := weds_pure n.weds
  have qw := owed_spec n w
  have hz := owedE_zero (n := n) (w := w)
  have hnv : netV n = .agg [.sl 12 (n.sites.map sitV), .sl 2 (n.subs.map subV), .sl 4 (n.weds.map wedV), .int .i64 n.low, .int .i64 n.high, .int .i64 n.step] := rfl
  rw [hnv] at qw ⊢
  obtain ⟨v1, v2, v3⟩ := v
  unfold voteV votedE
  generalize owedE n w = e at *
  refine fnD_of mixed Tryz.func113 rfl rfl (by simp [Tryz.ntmps113]) fun hwf E => ?_
  simp (disch := omega) [go_sem] at hwf
  simp (disch := omega) [Tryz.ntmps113, go_sem]
  refine callK_data qw [] (by simp [go_sem, hp1, hp2, hp3]) (.inl rfl) (by simp [go_sem]) (fun _ => ?_) (by simp [tabG, go_sem])
  simp (disch := omega) [go_sem]
  refine br_of (fun h => ?_) (fun h => ?_) <;> simp at h
  · rw [if_neg h]
    simp (disch := omega) [go_sem]
  · rw [if_pos h]
    obtain ⟨hOk, hw0, hw1⟩ := hz h
    obtain ⟨i, rfl⟩ := Int.eq_ofNat_of_zero_le hw0
    have hi : i < n.weds.length := by omega
    rw [offs_at hi]
    have hg : nth (n.weds.map wedV) i = wedV n.weds[i] := nth_map hi
    generalize n.weds[i] = u at *
    simp (disch := omega) [go_sem, hi, hg, wedV, ints_len]
    have hI2 : inM v2 = (decide (0 ≤ v2) && decide (v2 ≤ 1048576)) := rfl
    have hI3 : inM v3 = (decide (0 ≤ v3) && decide (v3 ≤ 1048576)) := rfl
    refine ⟨.inl (by kernel_rfl), ?_⟩
    refine br_of (fun h1 => ?_) (fun h1 => ?_) <;> simp at h1
    · rw [if_neg (by rw [hI2, hI3]; simp; omega)]
      simp (disch := omega) [go_sem]
    · rw [if_pos (by rw [hI2, hI3]; simp; omega)]
      simp (disch := omega) [go_sem]

theorem votedE_zero {n : NetN} {w : Int} {v : Int × Int × Int} (h : votedE n w v = 0) : (NetOk n ∧ 0 ≤ w ∧ w < n.weds.length) ∧ (0 ≤ v.1 ∧ v.1 < (offsN n w).length) ∧ inM v.2.1 = true ∧ inM v.2.2 = true := by
  unfold votedE at h
  by_cases h1 : owedE n w = 0
  · rw [if_pos h1] at h
    by_cases h2 : (0 ≤ v.1 ∧ v.1 < (offsN n w).length) ∧ inM v.2.1 = true ∧ inM v.2.2 = true
    · exact ⟨owedE_zero h1, h2⟩
    · rw [if_neg h2] at h; cases h
  · rw [if_neg h1] at h; exact absurd h h1

/-- The first eight loads. -/
def at8 (l : List Int) : List Int := (List.range 8).map fun i => l.getD i 0
theorem at8_eq (l : List Int) : l.take (min 8 l.length) ++ (List.replicate 8 0).drop (min 8 l.length) = at8 l := by
  apply List.ext_getElem?
  intro j
  unfold at8
  by_cases hj : j < 8
  · by_cases hl : j < l.length
    · rw [List.getElem?_append_left (by simp; omega)]
      rw [List.getElem?_take, if_pos (by omega)]
      simp [hj, hl]
    · rw [List.getElem?_append_right (by simp; omega)]
      rw [List.getElem?_drop, List.getElem?_replicate, if_pos (by simp; omega)]
      simp [hj, hl]
  · rw [List.getElem?_append_right (by simp; omega)]
    simp [hj, List.getElem?_replicate]
    omega
theorem at8_len (l : List Int) : (at8 l).length = 8 := by simp [at8]
theorem at8_fix {l : List Int} (h : loadedN l = 0) (m : Nat) : loadedN ((at8 l).take m) = 0 := by
  refine loadedN_ok (by rw [List.length_take, at8_len]; omega) fun i hi => ?_
  rw [List.length_take, at8_len] at hi
  rw [List.getElem_take]
  simp only [at8, List.getElem_map, List.getElem_range]
  by_cases hl : i < l.length
  · have := (loadedN_zero h).2 i hl
    rw [List.getD_eq_getElem?_getD, List.getElem?_eq_getElem hl]
    simp [fixI]; omega
  · simp [hl, fixI]
/-- The plan that loads wish. -/
def owishI (n : NetN) (w : Int) (l : List Int) : Int := if loadedN l = 0 then hiK ((at8 l).take (offsN n w).length) ((at8 l).take (offsN n w).length).length else 0
theorem owishI_bound {n : NetN} {w : Int} {l : List Int} (h1 : 1 ≤ (offsN n w).length) (h8 : (offsN n w).length ≤ 8) : 0 ≤ owishI n w l ∧ owishI n w l < (offsN n w).length := by
  unfold owishI
  split
  · have hlen : ((at8 l).take (offsN n w).length).length = (offsN n w).length := by rw [List.length_take, at8_len]; omega
    have := hiK_bound ((at8 l).take (offsN n w).length) ((at8 l).take (offsN n w).length).length
    omega
  · omega
theorem offs_len {n : NetN} {w : Int} (hOk : NetOk n) (h0 : 0 ≤ w) (h1 : w < n.weds.length) : 1 ≤ (offsN n w).length ∧ (offsN n w).length ≤ 8 := by
  obtain ⟨i, rfl⟩ := Int.eq_ofNat_of_zero_le h0
  have hi : i < n.weds.length := by omega
  rw [offs_at hi]
  exact (hOk.2.2.2.2.2 _ (List.getElem_mem hi)).2.2.2.2.1
set_option maxHeartbeats 1000000 in
theorem owish_spec (n : NetN) (w : Nat) (l : List Int) (hw : w < n.weds.length) (h8 : 1 ≤ n.weds[w].offsets.length ∧ n.weds[w].offsets.length ≤ 8) : FnD Tryz.prog 114 [netV n, .int .i64 w, .sl 1 (ints l)] (.tup [.int .i64 (owishI n w l), .int .i64 (loadedN l)]) := by
  have hp1 := sits_pure n.sites
  have hp2 := subs_pure n.subs
  have hp3 := weds_pure n.weds
  have hil := ints_pure l
  have q1 := highest_spec l
  have q2 := highest_spec ((at8 l).take n.weds[w].offsets.length)
  have hi0 : owishI n w l = if loadedN l = 0 then hiK ((at8 l).take n.weds[w].offsets.length) ((at8 l).take n.weds[w].offsets.length).length else 0 := by unfold owishI; rw [offs_at hw]
  rw [hi0]
  have hl8 := at8_len l
  have hfix := fun h => at8_fix (l := l) h n.weds[w].offsets.length
  have hnv : netV n = .agg [.sl 12 (n.sites.map sitV), .sl 2 (n.subs.map subV), .sl 4 (n.weds.map wedV), .int .i64 n.low, .int .i64 n.high, .int .i64 n.step] := rfl
  rw [hnv]
  have hg : nth (n.weds.map wedV) w = wedV n.weds[w] := nth_map hw
  have hcp : (ints l).take (min 8 l.length) ++ List.drop (min 8 l.length) [V.int .i64 0, .int .i64 0, .int .i64 0, .int .i64 0, .int .i64 0, .int .i64 0, .int .i64 0, .int .i64 0] = ints (at8 l) := by
    rw [← at8_eq, ints_app]
    unfold ints
    congr 1
    · exact List.map_take.symm
    · exact (List.map_drop (l := List.replicate 8 (0 : Int))).symm
  have hsc : ∀ l, scs (ints l) = true := fun l => by
    induction l with
    | nil => rfl
    | cons x l ih => simpa [ints, scs, V.sc] using ih
  generalize n.weds[w] = u at *
  refine fnD_of mixed Tryz.func114 rfl rfl (by simp [Tryz.ntmps114]) fun hwf E => ?_
  simp (disch := omega) [Tryz.ntmps114, go_sem]
  refine callK_data q1 [] (by simp [go_sem, hil]) (.inl rfl) (by simp [go_sem]) (fun _ => ?_)
  simp (disch := omega) [go_sem]
  refine br_of (fun h1 => ?_) (fun h1 => ?_) <;> simp at h1
  · rw [if_neg h1]
    simp (disch := omega) [go_sem]
  · rw [if_pos h1]
    have e1 : highI ((at8 l).take u.offsets.length) = hiK ((at8 l).take u.offsets.length) ((at8 l).take u.offsets.length).length := by unfold highI; rw [if_pos (hfix h1)]
    rw [hfix h1, e1] at q2
    simp (disch := omega) [go_sem, hw, hg, hcp, hsc, wedV, ints_len, hl8]
    refine ⟨by omega, ?_⟩
    have htk : (ints (at8 l)).take u.offsets.length = ints ((at8 l).take u.offsets.length) := by unfold ints; exact List.map_take.symm
    have hpt := ints_pure ((at8 l).take u.offsets.length)
    refine callK_data q2 [224] ?_ (.inr (by simp [go_sem])) (by simp [go_sem]) (fun _ => ?_)
    · simp [go_sem, ints_len, hl8, htk]
      exact ⟨h8.2, argsLe_self hpt⟩
    · simp (disch := omega) [go_sem]
      exact h1.symm

noncomputable def oNextV (n : NetN) (w : Int) (v : Int × Int × Int) (l : List Int) : (Int × Int × Int) × Int :=
  if votedE n w v = 0 then (if loadedN l = 0 then tallyN v.1 v.2.1 v.2.2 (owishI n w l) (votesAt n w) else ((0, 0, 0), loadedN l)) else ((0, 0, 0), votedE n w v)
set_option maxHeartbeats 1000000 in
theorem oNext_spec (n : NetN) (w : Int) (v : Int × Int × Int) (l : List Int) : FnD Tryz.prog 64 [netV n, .int .i64 w, voteV v, .sl 1 (ints l)] (voteE (oNextV n w v l)) tabG := by
  have hp1 := sits_pure n.sites
  have hp2 := subs_pure n.subs
  have hp3 := weds_pure n.weds
  have hil := ints_pure l
  have qw := voted_spec n w v
  have hz := votedE_zero (n := n) (w := w) (v := v)
  have q := fun (i : Nat) h h8 => owish_spec n i l h h8
  have hnv : netV n = .agg [.sl 12 (n.sites.map sitV), .sl 2 (n.subs.map subV), .sl 4 (n.weds.map wedV), .int .i64 n.low, .int .i64 n.high, .int .i64 n.step] := rfl
  rw [hnv] at qw q ⊢
  obtain ⟨v1, v2, v3⟩ := v
  have qt := fun x y => tally_spec v1 v2 v3 x y
  unfold oNextV
  generalize votedE n w (v1, v2, v3) = e at *
  generalize loadedN l = e2 at *
  unfold voteV at qw qt ⊢
  refine fnD_of mixed Tryz.func64 rfl rfl (by simp [Tryz.ntmps64]) fun hwf E => ?_
  clear hwf
  simp (disch := omega) [Tryz.ntmps64, go_sem]
  refine callK_data qw [] (by simp [go_sem, hp1, hp2, hp3]) (.inl rfl) (by simp [go_sem]) (fun _ => ?_) (by simp [tabG, go_sem])
  simp (disch := omega) [go_sem]
  refine br_of (fun h => ?_) (fun h => ?_) <;> simp at h
  · rw [if_neg h]
    simp (disch := omega) [go_sem, voteE, voteV]
  · rw [if_pos h]
    obtain ⟨⟨hOk, hw0, hw1⟩, _⟩ := hz h
    have h8 := offs_len hOk hw0 hw1
    obtain ⟨i, rfl⟩ := Int.eq_ofNat_of_zero_le hw0
    have hi : i < n.weds.length := by omega
    rw [offs_at hi] at h8
    have hva : votesAt n i = n.weds[i].votes := by simp [votesAt, hi]
    rw [hva]
    have hg : nth (n.weds.map wedV) i = wedV n.weds[i] := nth_map hi
    have q1 := q i hi h8
    generalize owishI n i l = x at *
    have qt1 := qt x n.weds[i].votes
    generalize n.weds[i] = u at *
    simp (disch := omega) [go_sem]
    refine callK_data q1 [] (by simp [go_sem, hp1, hp2, hp3, hil]) (.inl rfl) (by simp [go_sem]) (fun _ => ?_)
    simp (disch := omega) [go_sem]
    refine br_of (fun h1 => ?_) (fun h1 => ?_) <;> simp at h1
    · rw [if_neg h1]
      simp (disch := omega) [go_sem, voteE, voteV]
    · rw [if_pos h1]
      generalize tallyN v1 v2 v3 x u.votes = t at *
      obtain ⟨⟨t1, t2, t3⟩, t4⟩ := t
      simp (disch := omega) [go_sem, hi, hg, wedV]
      refine callK_data qt1 [] (by simp [go_sem]) (.inl rfl) (by simp [go_sem, voteE, voteV]) (fun _ => ?_)
      simp (disch := omega) [go_sem, voteE, voteV]
      try exact .inl (by kernel_rfl)
end Go.Proofs.YtpijmanjjhpkiaaGreatDoor

namespace Go.Proofs.YtpijmanjjhpkiaaGreatDoor
open Go.AM Go.RowKit
set_option maxRecDepth 100000

set_option maxHeartbeats 1000000 in
theorem wish_spec (n : NetN) (load : Int) : FnD Tryz.prog 111 [netV n, .int .i64 load] (wishE n load) tabG := by
  have hp1 := sits_pure n.sites
  have hp2 := subs_pure n.subs
  have hp3 := weds_pure n.weds
  have hc := cycles_spec n
  have hnv : netV n = .agg [.sl 12 (n.sites.map sitV), .sl 2 (n.subs.map subV), .sl 4 (n.weds.map wedV), .int .i64 n.low, .int .i64 n.high, .int .i64 n.step] := rfl
  rw [hnv] at hc ⊢
  refine fnD_of mixed Tryz.func111 rfl rfl (by simp [Tryz.ntmps111]) fun hwf E => ?_
  simp (disch := omega) [Tryz.ntmps111, go_sem]
  refine callK_data hc [] (by simp [go_sem, hp1, hp2, hp3]) (.inl rfl) (by simp [go_sem, ints_pure]) (fun _ => ?_) (by simp [tabG, go_sem])
  by_cases hOk : NetOk n
  · have hT := hOk.1
    have hq := hT.q
    rw [netN_ok hOk, allCyc_ok hOk]
    simp (disch := omega) [go_sem]
    refine br_of (fun h1 => ?_) (fun h1 => ?_) <;> simp at h1
    · simp (disch := omega) [go_sem, h1, wishE, wishC_arg hOk (load := load) (by omega)]
    · simp (disch := omega) [go_sem]
      refine br_of (fun h2 => ?_) (fun h2 => ?_) <;> simp at h2
      · simp (disch := omega) [go_sem, wishE, wishC_arg hOk (load := load) (by omega)]
      · have hb0 : 0 ≤ load * ((cycK n : Int) + 1) := Int.mul_nonneg h1 (by omega)
        have hb1 : load * ((cycK n : Int) + 1) ≤ 65536 * 65 := Int.mul_le_mul h2 (by omega) (by omega) (by omega)
        have e0 : (load * ((cycK n : Int) + 1)).tdiv 65536 = load * ((cycK n : Int) + 1) / 65536 := Int.tdiv_eq_ediv_of_nonneg hb0
        have e1 : IntKind.i64.wrap ((load * ((cycK n : Int) + 1)).tdiv 65536) = load * ((cycK n : Int) + 1) / 65536 := by
          rw [e0]; exact i64_wrap (by omega) (by omega)
        have e2 : (if (cycK n : Int) < load * ((cycK n : Int) + 1) / 65536 then (cycK n : Int) else load * ((cycK n : Int) + 1) / 65536) = (wishI n load : Nat) := by
          unfold wishI
          split <;> omega
        have e3 : wishI n load < cycK n + 1 := by unfold wishI; omega
        have e4 : ((wishI n load : Nat) : Int) < (cycK n : Int) + 1 := by omega
        have e5 : nth (ints (cycN n (cycK n + 1))) (wishI n load) = .int .i64 (wishN n load) := by
          rw [nth_ints (by rw [cycN_len]; exact e3)]
          simp [cycN, wishN]
        simp (disch := omega) [go_sem, ints_len, cycN_len, wishE, wishC_ok hOk (load := load) (by omega), e1, e2, e4, e5]
        exact e3
  · rw [netN_bad hOk, allCyc_bad hOk]
    simp (disch := omega) [go_sem, wishE, wishC_bad hOk]

set_option maxHeartbeats 1000000 in
theorem next_spec (n : NetN) (v : Int × Int × Int) (load : Int) : FnD Tryz.prog 62 [netV n, voteV v, .int .i64 load] (.tup [voteV (nextV n v load), .int .i64 (nextC n v load)]) tabG := by
  have hp1 := sits_pure n.sites
  have hp2 := subs_pure n.subs
  have hp3 := weds_pure n.weds
  have hc := cycles_spec n
  have hw := wish_spec n load
  obtain ⟨now, wish0, many⟩ := v
  have hnv : netV n = .agg [.sl 12 (n.sites.map sitV), .sl 2 (n.subs.map subV), .sl 4 (n.weds.map wedV), .int .i64 n.low, .int .i64 n.high, .int .i64 n.step] := rfl
  have hvv : voteV (now, wish0, many) = .agg [.int .i64 now, .int .i64 wish0, .int .i64 many] := rfl
  rw [hnv] at hc hw ⊢
  rw [hvv]
  refine fnD_of mixed Tryz.func62 rfl rfl (by simp [Tryz.ntmps62]) fun hwf E => ?_
  simp (disch := omega) [go_sem] at hwf
  simp (disch := omega) [Tryz.ntmps62, go_sem]
  refine callK_data hc [] (by simp [go_sem, hp1, hp2, hp3]) (.inl rfl) (by simp [go_sem, ints_pure]) (fun _ => ?_) (by simp [tabG, go_sem])
  by_cases hOk : NetOk n
  · have hT := hOk.1
    rw [netN_ok hOk, allCyc_ok hOk]
    simp (disch := omega) [go_sem]
    refine callK_bool (span_spec [now, wish0, many]) [320] (by simp [go_sem, ints]) (fun h1 => ?_) (fun h1 => ?_)
    · simp at h1
      have h1' : (inM now && (inM wish0 && inM many)) = true := by simp [h1]
      simp (disch := omega) [go_sem]
      refine callK_bool (contains_spec (cycN n (cycK n + 1)) now) [] (by simp [go_sem, ints_pure]) (fun h2 => ?_) (fun h2 => ?_)
      · simp at h2
        simp (disch := omega) [go_sem]
        refine callK_data hw [] (by simp [go_sem, hp1, hp2, hp3]) (.inl rfl) (by simp [go_sem, wishE]) (fun _ => ?_) (by simp [tabG, go_sem])
        by_cases hL : 0 ≤ load ∧ load ≤ 65536
        · have e := nextC_ok (v := (now, wish0, many)) hOk ⟨h1', h2⟩ hL
          have hm1 := cyc_bound hT h2
          have hm2 := towards_mem hT h2 (wish_mem n load)
          have hm3 := cyc_bound hT hm2
          have ht := tally_spec now wish0 many (towards now (wishN n load) n.step) 3
          have h1m : inM (towards now (wishN n load) n.step) = true := inM_iff.2 (by omega)
          have e2 : tallyN now wish0 many (towards now (wishN n load) n.step) 3 = (heardN now wish0 many (towards now (wishN n load) n.step) 3, 0) := by
            refine tallyN_ok ?_
            simp [h1, h1m, show inM 3 = true from rfl]
          rw [e2, hvv] at ht
          have e3 := nextV_ok e
          simp only at e3
          simp (disch := omega) [go_sem, wishE, wishC_ok hOk hL, e, e3]
          generalize heardN now wish0 many (towards now (wishN n load) n.step) 3 = res at *
          have hwb := cyc_bound hT (wish_mem n load)
          have hs := hT.2.2.1
          generalize wishN n load = to at *
          obtain ⟨ra, rb, rc⟩ := res
          have hrv : voteV (ra, rb, rc) = .agg [.int .i64 ra, .int .i64 rb, .int .i64 rc] := rfl
          rw [hrv]
          refine br_of (fun h3 => ?_) (fun h3 => ?_) <;> simp at h3
          · have e4 : towards now to n.step = now + n.step := by unfold towards; rw [if_pos h3]
            rw [e4] at ht hm3
            simp (disch := omega) [go_sem]
            refine callK_data ht [] (by simp [go_sem]) (.inl rfl) (by simp [go_sem, voteE, voteV]) (fun _ => ?_)
            simp (disch := omega) [go_sem, voteE, voteV]
          · simp (disch := omega) [go_sem]
            refine br_of (fun h4 => ?_) (fun h4 => ?_) <;> simp at h4
            · have e4 : towards now to n.step = now - n.step := by unfold towards; rw [if_neg (by omega), if_pos h4]
              rw [e4] at ht hm3
              simp (disch := omega) [go_sem]
              refine callK_data ht [] (by simp [go_sem]) (.inl rfl) (by simp [go_sem, voteE, voteV]) (fun _ => ?_)
              simp (disch := omega) [go_sem, voteE, voteV]
            · have e4 : towards now to n.step = now := by unfold towards; rw [if_neg (by omega), if_neg (by omega)]
              rw [e4] at ht hm3
              simp (disch := omega) [go_sem]
              refine callK_data ht [] (by simp [go_sem]) (.inl rfl) (by simp [go_sem, voteE, voteV]) (fun _ => ?_)
              simp (disch := omega) [go_sem, voteE, voteV]
        · have e := nextC_load (v := (now, wish0, many)) hOk ⟨h1', h2⟩ hL
          simp (disch := omega) [go_sem, wishE, wishC_arg hOk hL, e, nextV_bad, voteV]
      · simp at h2
        have e := nextC_arg (v := (now, wish0, many)) (load := load) hOk (fun hA => h2 hA.2)
        simp (disch := omega) [go_sem, e, nextV_bad, voteV]
    · simp at h1
      have e := nextC_arg (v := (now, wish0, many)) (load := load) hOk (fun hA => by
        have := hA.1
        simp at this
        exact absurd this.2.2 (by simp [h1 this.1 this.2.1]))
      simp (disch := omega) [go_sem, e, nextV_bad, voteV]
  · rw [netN_bad hOk, allCyc_bad hOk]
    have e := nextC_net (v := (now, wish0, many)) (load := load) hOk
    simp (disch := omega) [go_sem, e, nextV_bad, voteV]
end Go.Proofs.YtpijmanjjhpkiaaGreatDoor

namespace Go.Proofs.YtpijmanjjhpkiaaGreatDoor
open Go.AM Go.RowKit
set_option maxRecDepth 100000

theorem subs_all {n : NetN} (h : NetOk n) : (n.subs.flatMap SubN.sites).Nodup ∧ (∀ x ∈ n.subs.flatMap SubN.sites, 0 ≤ x ∧ x < n.sites.length) ∧ (n.subs.flatMap SubN.sites).length = n.sites.length ∧ ∀ u ∈ n.subs, u.critical ∈ u.sites := by
  obtain ⟨h1, h2, h3, h4⟩ := h.2.2.1
  have eK : seenK n n.subs.length = n.subs.flatMap SubN.sites := by unfold seenK; rw [List.take_length]
  rw [eK] at h2 h4
  exact ⟨h2.1, h2.2, h4, h3⟩
theorem subs_in {n : NetN} (h : NetOk n) {i : Nat} (hi : i < n.sites.length) : ∃ k, ∃ hk : k < n.subs.length, (i : Int) ∈ n.subs[k].sites := by
  obtain ⟨h1, h2, h3, _⟩ := subs_all h
  have hm : (i : Int) ∈ n.subs.flatMap SubN.sites := Classical.byContradiction fun hn => by
    have := nodup_len n.sites.length ((i : Int) :: n.subs.flatMap SubN.sites) (List.nodup_cons.2 ⟨hn, h1⟩) (fun x hx => by
      rcases List.mem_cons.1 hx with rfl | hx
      · omega
      · exact h2 x hx)
    simp only [List.length_cons] at this
    omega
  obtain ⟨u, hu, hx⟩ := List.mem_flatMap.1 hm
  obtain ⟨k, hk, rfl⟩ := List.getElem_of_mem hu
  exact ⟨k, hk, hx⟩
theorem subs_one {n : NetN} (h : NetOk n) {j k : Nat} (hj : j < n.subs.length) (hk : k < n.subs.length) {x : Int} (h1 : x ∈ n.subs[j].sites) (h2 : x ∈ n.subs[k].sites) : j = k := by
  have hp := (subs_all h).1
  unfold List.Nodup at hp
  rw [List.pairwise_flatMap] at hp
  have := List.pairwise_iff_getElem.1 hp.2
  by_cases e : j = k
  · exact e
  · rcases Nat.lt_or_gt_of_ne e with hl | hl
    · exact absurd rfl (this j k hj hk hl x h1 x h2)
    · exact absurd rfl (this k j hk hj hl x h2 x h1)
theorem subN_at {n : NetN} (h : NetOk n) {k : Nat} (hk : k < n.subs.length) {x : Int} (hx : x ∈ n.subs[k].sites) : subN n x = k := by
  have : n.subs.findIdx? (fun u => decide (x ∈ u.sites)) = some k := by
    rw [List.findIdx?_eq_some_iff_getElem]
    refine ⟨hk, by simpa using hx, fun j hj => ?_⟩
    have hne : ¬ x ∈ n.subs[j].sites := fun e => by have := subs_one h (by omega) hk e hx; omega
    simpa using hne
  simp [subN, findA, this]
end Go.Proofs.YtpijmanjjhpkiaaGreatDoor

namespace Go.Proofs.YtpijmanjjhpkiaaGreatDoor
open Go.AM Go.RowKit
set_option maxRecDepth 100000

theorem askN_ok {s : Sit} {b x y : Int} (h : SiteOk s) (h2 : (0 ≤ x ∧ x < b) ∧ 0 ≤ y ∧ y < b) : askN s b [x, y] = 0 := by
  unfold askN; rw [if_pos h, if_pos]
  simp [inN]; omega
end Go.Proofs.YtpijmanjjhpkiaaGreatDoor

namespace Go.Proofs.YtpijmanjjhpkiaaGreatDoor
open Go.AM Go.RowKit
set_option maxRecDepth 100000

theorem pnext_spec (s : Sit) (i : Nat) (hi : i < s.phases.length) : FnD Tryz.prog 175 [sitV s, .int .i64 i] (.int .i64 ((i + 1) % s.phases.length : Nat)) := by
  unfold sitV
  refine fnD_of mixed Tryz.func175 rfl rfl (by simp [Tryz.ntmps175]) fun hwf E => ?_
  simp (disch := omega) [go_sem, sets_len, rows_len] at hwf
  have e1 : ((i : Int) + 1).tmod s.phases.length = (((i + 1) % s.phases.length : Nat) : Int) := by
    rw [Int.tmod_eq_emod_of_nonneg (by omega)]; simp
  simp (disch := omega) [Tryz.ntmps175, go_sem, e1]
  intro h
  simp [h] at hi
theorem pclear_spec (s : Sit) (i : Nat) (hOk : SiteOk s) (hi : i < s.phases.length) : FnD Tryz.prog 167 [sitV s, .int .i64 i] (.int .i64 (clearN s i ((i + 1) % s.phases.length))) tabG := by
  have hpu := (⟨grps_pure s.groups, phas_pure s.phases, eyes_pure s.eyes, plns_pure s.plans, sets_pure s.apart, rows_pure s.between⟩ : _ ∧ _ ∧ _ ∧ _ ∧ _ ∧ _)
  obtain ⟨hp1, hp2, hp3, hp4, hp5, hp6⟩ := hpu
  have qn := pnext_spec s i hi
  have hj : (i + 1) % s.phases.length < s.phases.length := Nat.mod_lt _ (by omega)
  generalize (i + 1) % s.phases.length = j at *
  have qc := sclear_spec s i j
  have ha : askN s (s.phases.length : Int) [(i : Int), (j : Int)] = 0 := askN_ok hOk (by omega)
  rw [ha] at qc
  simp only [if_true, Int.toNat_natCast] at qc
  have hsv : sitV s = .agg [.int .i64 s.id, .sl 3 (s.groups.map grpV), .sl 1 (sets s.apart), .sl 1 (rows s.between), .sl 5 (s.phases.map phaV), .sl 4 (s.eyes.map eyeV), .int .i64 s.watch, .int .i64 s.feed, .int .i64 s.heal, .int .i64 s.low, .int .i64 s.high, .sl 3 (s.plans.map plnV)] := rfl
  rw [hsv] at qn qc ⊢
  refine fnD_of mixed Tryz.func167 rfl rfl (by simp [Tryz.ntmps167]) fun hwf E => ?_
  clear hwf
  simp (disch := omega) [Tryz.ntmps167, go_sem]
  refine callK_data qn [] (by simp [go_sem, hp1, hp2, hp3, hp4, hp5, hp6]) (.inl rfl) (by simp [go_sem]) (fun _ => ?_)
  simp (disch := omega) [go_sem]
  refine callK_data qc [] (by simp [go_sem, hp1, hp2, hp3, hp4, hp5, hp6]) (.inl rfl) (by simp [go_sem]) (fun _ => ?_) (by simp [tabG, go_sem])
  simp (disch := omega) [go_sem]
  exact .inl (by kernel_rfl)

/-! plan.Clamp -/
def cycC (s : Sit) (p : Pln) : Int := if s.high < (if p.cycle < s.low then s.low else p.cycle) then s.high else (if p.cycle < s.low then s.low else p.cycle)
def wishP (s : Sit) (p : Pln) (i : Nat) : Int := if 0 < (if s.high < (if 0 < p.splits.getD i 0 then p.splits.getD i 0 else 0) then s.high else (if 0 < p.splits.getD i 0 then p.splits.getD i 0 else 0)) - needsN s i then (if s.high < (if 0 < p.splits.getD i 0 then p.splits.getD i 0 else 0) then s.high else (if 0 < p.splits.getD i 0 then p.splits.getD i 0 else 0)) - needsN s i else 0
theorem wishP_bound {s : Sit} {p : Pln} (i : Nat) (hL : 0 ≤ s.low ∧ s.high ≤ 1048576) (hN : 0 ≤ needsN s i) : 0 ≤ wishP s p i ∧ wishP s p i ≤ 1048576 := by
  unfold wishP
  generalize p.splits.getD i 0 = x at *
  repeat' split
  all_goals omega
theorem wishP_none {s : Sit} {p : Pln} (i : Nat) (hL : 0 ≤ s.high) (hN : 0 ≤ needsN s i) (h : p.splits.length ≤ i) : wishP s p i = 0 := by
  unfold wishP
  rw [show p.splits.getD i 0 = 0 by simp [List.getD, h]]
  simp
  repeat' split
  all_goals omega
def allC (s : Sit) (p : Pln) : Nat → Int
  | 0 => 0
  | k + 1 => allC s p k + wishP s p k
def restC (s : Sit) (c : Int) : Nat → Int
  | 0 => c
  | k + 1 => restC s c k - needsN s k
def firstC (s : Sit) (p : Pln) : Nat → Int
  | 0 => -1
  | k + 1 => if 0 < wishP s p k ∧ firstC s p k < 0 then k else firstC s p k
theorem firstC_yes {s : Sit} {p : Pln} {k : Nat} (h : 0 < wishP s p k ∧ firstC s p k < 0) : firstC s p (k + 1) = k := by
  show (if _ then _ else _) = _
  rw [if_pos h]
theorem firstC_no {s : Sit} {p : Pln} {k : Nat} (h : ¬ (0 < wishP s p k ∧ firstC s p k < 0)) : firstC s p (k + 1) = firstC s p k := by
  show (if _ then _ else _) = _
  rw [if_neg h]
theorem firstC_bound (s : Sit) (p : Pln) : ∀ k, -1 ≤ firstC s p k ∧ firstC s p k < k
  | 0 => by simp [firstC]
  | k + 1 => by
    have := firstC_bound s p k
    unfold firstC
    split <;> omega
theorem allC_bound {s : Sit} {p : Pln} (hL : 0 ≤ s.low ∧ s.high ≤ 1048576) (hN : NeedsOk s) : ∀ k, k ≤ s.phases.length → 0 ≤ allC s p k ∧ allC s p k ≤ 1048576 * k
  | 0, _ => by simp [allC]
  | k + 1, h => by
    have := allC_bound (p := p) hL hN k (by omega)
    have := wishP_bound (p := p) k hL (hN k (by omega)).1
    unfold allC
    omega
theorem restC_round {s : Sit} {c : Int} : ∀ k, restC s c k + roundK s k = c
  | 0 => by simp [restC, roundK]
  | k + 1 => by
    have := restC_round (s := s) (c := c) k
    rw [roundK_succ]
    unfold restC
    omega
theorem roundK_mono {s : Sit} (hN : NeedsOk s) {k m : Nat} (h : k ≤ m) (hm : m ≤ s.phases.length) : roundK s k ≤ roundK s m := by
  induction m with
  | zero => obtain rfl : k = 0 := by omega
            omega
  | succ m ih =>
    by_cases e : k = m + 1
    · subst e; omega
    · have := ih (by omega) (by omega)
      have := hN m (by omega)
      rw [roundK_succ]
      omega
theorem restC_bound {s : Sit} {c : Int} (hN : NeedsOk s) (hc : roundK s s.phases.length ≤ c ∧ c ≤ 1048576) {k : Nat} (h : k ≤ s.phases.length) : 0 ≤ restC s c k ∧ restC s c k ≤ 1048576 := by
  have h1 := restC_round (s := s) (c := c) k
  have h2 := roundK_mono hN h (Nat.le_refl _)
  have h3 := roundK_bound s hN k h
  omega
def wl (s : Sit) (p : Pln) (k : Nat) : List Int := (List.range s.phases.length).map fun i => if i < k then wishP s p i else 0
theorem wl_len (s : Sit) (p : Pln) (k : Nat) : (wl s p k).length = s.phases.length := by simp [wl]
theorem wl_zero (s : Sit) (p : Pln) : ints (wl s p 0) = List.replicate s.phases.length (V.int .i64 0) := by
  simp [wl, ints, List.map_const']
theorem wl_at {s : Sit} {p : Pln} {k i : Nat} (h : i < s.phases.length) : (wl s p k)[i]'(by rw [wl_len]; exact h) = if i < k then wishP s p i else 0 := by simp [wl]
theorem wl_set {s : Sit} {p : Pln} {k : Nat} (h : k < s.phases.length) : (wl s p k).set k (wishP s p k) = wl s p (k + 1) := by
  apply List.ext_getElem
  · simp [wl_len]
  · intro i h1 h2
    rw [List.length_set, wl_len] at h1
    rw [List.getElem_set, wl_at h1, wl_at h1]
    by_cases e : k = i
    · subst e; simp
    · rw [if_neg e]
      by_cases g : i < k
      · rw [if_pos g, if_pos (by omega)]
      · rw [if_neg g, if_neg (by omega)]
theorem wl_same {s : Sit} {p : Pln} {k : Nat} (h : k < s.phases.length) (hz : wishP s p k = 0) : wl s p (k + 1) = wl s p k := by
  rw [← wl_set h, hz]
  apply List.ext_getElem
  · simp
  · intro i h1 h2
    rw [List.getElem_set]
    by_cases e : k = i
    · subst e; rw [if_pos rfl, wl_at h]; simp
    · rw [if_neg e]
theorem ints_set (l : List Int) (k : Nat) (x : Int) : (ints l).set k (.int .i64 x) = ints (l.set k x) := by simp [ints, List.map_set]
def leastL (s : Sit) (k : Nat) : List Int := (List.range k).map (needsN s)
theorem leastL_len (s : Sit) (k : Nat) : (leastL s k).length = k := by simp [leastL]
theorem leastL_succ (s : Sit) (k : Nat) : leastL s (k + 1) = leastL s k ++ [needsN s k] := by simp [leastL, List.range_succ]
noncomputable def shareC (s : Sit) (p : Pln) (c : Int) (i : Nat) : Int := if 0 < allC s p s.phases.length then restC s c s.phases.length * wishP s p i / allC s p s.phases.length else 0
noncomputable def leftC (s : Sit) (p : Pln) (c : Int) : Nat → Int
  | 0 => restC s c s.phases.length
  | k + 1 => leftC s p c k - shareC s p c k
noncomputable def sl2 (s : Sit) (p : Pln) (c : Int) (k : Nat) : List Int := (List.range s.phases.length).map fun i => if i < k then needsN s i + shareC s p c i else needsN s i
theorem sl2_len (s : Sit) (p : Pln) (c : Int) (k : Nat) : (sl2 s p c k).length = s.phases.length := by simp [sl2]
theorem sl2_zero (s : Sit) (p : Pln) (c : Int) : sl2 s p c 0 = leastL s s.phases.length := by simp [sl2, leastL]
theorem sl2_at {s : Sit} {p : Pln} {c : Int} {k i : Nat} (h : i < s.phases.length) : (sl2 s p c k)[i]'(by rw [sl2_len]; exact h) = if i < k then needsN s i + shareC s p c i else needsN s i := by simp [sl2]
theorem sl2_set {s : Sit} {p : Pln} {c : Int} {k : Nat} (h : k < s.phases.length) : (sl2 s p c k).set k (needsN s k + shareC s p c k) = sl2 s p c (k + 1) := by
  apply List.ext_getElem
  · simp [sl2_len]
  · intro i h1 h2
    rw [List.length_set, sl2_len] at h1
    rw [List.getElem_set, sl2_at h1, sl2_at h1]
    by_cases e : k = i
    · subst e; simp
    · rw [if_neg e]
      by_cases g : i < k
      · rw [if_pos g, if_pos (by omega)]
      · rw [if_neg g, if_neg (by omega)]

theorem sl2_same {s : Sit} {p : Pln} {c : Int} {k : Nat} (h : k < s.phases.length) (hz : shareC s p c k = 0) : sl2 s p c (k + 1) = sl2 s p c k := by
  rw [← sl2_set h, hz]
  apply List.ext_getElem
  · simp
  · intro i h1 h2
    rw [List.getElem_set]
    by_cases e : k = i
    · subst e; rw [if_pos rfl, sl2_at h]; simp
    · rw [if_neg e]
theorem shareC_bound {s : Sit} {p : Pln} {c : Int} (hL : 0 ≤ s.low ∧ s.high ≤ 1048576) (hN : NeedsOk s) (hc : roundK s s.phases.length ≤ c ∧ c ≤ 1048576) {k : Nat} (h : k < s.phases.length) :
    (0 ≤ restC s c s.phases.length * wishP s p k ∧ restC s c s.phases.length * wishP s p k ≤ 1099511627776) ∧ 0 ≤ shareC s p c k ∧ shareC s p c k ≤ 1099511627776 ∧
    (0 < allC s p s.phases.length → (restC s c s.phases.length * wishP s p k).tdiv (allC s p s.phases.length) = shareC s p c k) := by
  have a1 := restC_bound hN hc (Nat.le_refl s.phases.length)
  have a2 := wishP_bound (p := p) k hL (hN k h).1
  have b0 : 0 ≤ restC s c s.phases.length * wishP s p k := Int.mul_nonneg a1.1 a2.1
  have b1 : restC s c s.phases.length * wishP s p k ≤ 1048576 * 1048576 := Int.mul_le_mul a1.2 a2.2 a2.1 (by omega)
  refine ⟨⟨b0, by omega⟩, ?_⟩
  unfold shareC
  split
  · rename_i g
    refine ⟨Int.ediv_nonneg b0 (by omega), ?_, fun _ => Int.tdiv_eq_ediv_of_nonneg b0⟩
    have := Int.ediv_le_self (allC s p s.phases.length) b0
    omega
  · rename_i g
    exact ⟨by omega, by omega, fun e => absurd e g⟩
theorem leftC_bound {s : Sit} {p : Pln} {c : Int} (hL : 0 ≤ s.low ∧ s.high ≤ 1048576) (hN : NeedsOk s) (hc : roundK s s.phases.length ≤ c ∧ c ≤ 1048576) : ∀ k, k ≤ s.phases.length → -(1099511627776 * k) ≤ leftC s p c k ∧ leftC s p c k ≤ 1048576
  | 0, _ => by
    have a1 := restC_bound hN hc (Nat.le_refl s.phases.length)
    unfold leftC
    omega
  | k + 1, h => by
    have := leftC_bound (p := p) hL hN hc k (by omega)
    have := (shareC_bound (p := p) hL hN hc (k := k) (by omega)).2
    unfold leftC
    omega

noncomputable def clampL (s : Sit) (p : Pln) (c : Int) : List Int := (sl2 s p c s.phases.length).set (firstC s p s.phases.length).toNat ((sl2 s p c s.phases.length).getD (firstC s p s.phases.length).toNat 0 + leftC s p c s.phases.length)
/-- The plan of a site that is next to any one. -/
noncomputable def clampN (s : Sit) (p : Pln) : Pln := ⟨cycC s p, (p.offset.tmod (cycC s p) + cycC s p).tmod (cycC s p), clampL s p (cycC s p)⟩

def clS (s : Sit) (p : Pln) (c o : Int) (sl : List (Nat × V)) (hp : List (Nat × AM.Obj)) (sp : V) (k nx : Nat) : St := ⟨sl ++ [(11, .obj 656 s.phases.length), (7, .ptr 288 1 0 0), (5, .int .i64 0), (4, .ptr 32 1 0 0), (3, .ptr 16 1 0 0), (2, .ptr 0 1 0 0)], hp ++ [(656, ⟨.arr, 3, 1, ints (wl s p k)⟩), (288, ⟨.box, 77, 3, [.agg [.int .i64 c, .int .i64 o, sp]]⟩), (32, ⟨.box, 77, 3, [.agg [.int .i64 0, .int .i64 0, .nilS]]⟩), (16, ⟨.box, 77, 3, [plnV p]⟩), (0, ⟨.box, 75, 12, [sitV s]⟩)], nx, [], 150, 0, tabG⟩
def cl1F (s : Sit) (p : Pln) (c o : Int) : Nat → St
  | 0 => clS s p c o [(54, .int .i64 0), (53, .int .i64 s.phases.length), (52, .sl 5 (s.phases.map phaV)), (10, .int .i64 (-1)), (9, .int .i64 0), (8, .int .i64 c)] [] .nilS 0 2048
  | k + 1 => clS s p c o [(54, .int .i64 (k + 1 : Nat)), (53, .int .i64 s.phases.length), (52, .sl 5 (s.phases.map phaV)), (10, .int .i64 (firstC s p (k + 1))), (9, .int .i64 (allC s p (k + 1))), (8, .int .i64 (restC s c (k + 1)))] [(1008, ⟨.arr, 3, 1, ints (leastL s (k + 1))⟩)] (.obj 1008 (k + 1)) (k + 1) 2048
noncomputable def cl2F (s : Sit) (p : Pln) (c o : Int) (k : Nat) : St :=
  clS s p c o [(115, .int .i64 k), (114, .int .i64 s.phases.length), (15, .int .i64 (leftC s p c k)), (10, .int .i64 (firstC s p s.phases.length)), (9, .int .i64 (allC s p s.phases.length)), (8, .int .i64 (restC s c s.phases.length))] [(1008, ⟨.arr, 3, 1, ints (sl2 s p c k)⟩)] (.obj 1008 s.phases.length) s.phases.length 4096

set_option maxHeartbeats 4000000 in
theorem clamp_spec (s : Sit) (p : Pln) (hOk : SiteOk s) : FnD Tryz.prog 155 [sitV s, plnV p] (.tup [plnV (clampN s p), .int .i64 0]) tabG := by
  have hpu := (⟨grps_pure s.groups, phas_pure s.phases, eyes_pure s.eyes, plns_pure s.plans, sets_pure s.apart, rows_pure s.between⟩ : _ ∧ _ ∧ _ ∧ _ ∧ _ ∧ _)
  obtain ⟨hp1, hp2, hp3, hp4, hp5, hp6⟩ := hpu
  have hip := ints_pure p.splits
  have qc := check_spec s
  have qk := fun i hi => pclear_spec s i hOk hi
  rw [checkN_ok hOk] at qc
  have hsv : sitV s = .agg [.int .i64 s.id, .sl 3 (s.groups.map grpV), .sl 1 (sets s.apart), .sl 1 (rows s.between), .sl 5 (s.phases.map phaV), .sl 4 (s.eyes.map eyeV), .int .i64 s.watch, .int .i64 s.feed, .int .i64 s.heal, .int .i64 s.low, .int .i64 s.high, .sl 3 (s.plans.map plnV)] := rfl
  have hpv : plnV p = .agg [.int .i64 p.cycle, .int .i64 p.offset, .sl 1 (ints p.splits)] := rfl
  have hcv : plnV (clampN s p) = .agg [.int .i64 (cycC s p), .int .i64 ((p.offset.tmod (cycC s p) + cycC s p).tmod (cycC s p)), .sl 1 (ints (clampL s p (cycC s p)))] := rfl
  rw [hsv] at qc qk ⊢
  rw [hpv, hcv]
  refine fnD_of mixed Tryz.func155 rfl rfl (by simp [Tryz.ntmps155]) fun hwf E => ?_
  simp (disch := omega) [go_sem, sets_len, rows_len, ints_len] at hwf
  simp (disch := omega) [Tryz.ntmps155, go_sem]
  refine callK_data qc [] (by simp [go_sem, hp1, hp2, hp3, hp4, hp5, hp6]) (.inl rfl) (by simp [go_sem]) (fun _ => ?_) (by simp [tabG, go_sem])
  have hL := hOk.low
  have hN := hOk.needs
  have h4 : timedN s = true := hOk 4 (by omega)
  simp [timedN, inN] at h4
  have h8 := (groups_site.1 hOk).2.1.1
  have hrb : roundK s s.phases.length ≤ cycC s p ∧ cycC s p ≤ 1048576 := by unfold cycC; repeat' split <;> omega
  have hc1 : 1 ≤ cycC s p := by unfold cycC; repeat' split <;> omega
  simp (disch := omega) [go_sem]
  have hcc : (if s.high < if p.cycle < s.low then s.low else p.cycle then s.high else if p.cycle < s.low then s.low else p.cycle) = cycC s p := rfl
  simp only [hcc]
  generalize cycC s p = c at *
  have hm1 := Int.tmod_lt_of_pos p.offset (show 0 < c by omega)
  have hm2 := Int.lt_tmod_of_pos p.offset (show 0 < c by omega)
  have hwr : IntKind.i64.wrap (p.offset.tmod c + c) = p.offset.tmod c + c := i64_wrap (by omega) (by omega)
  rw [hwr]
  have ho : 0 ≤ (p.offset.tmod c + c).tmod c ∧ (p.offset.tmod c + c).tmod c < c := by
    refine ⟨?_, Int.tmod_lt_of_pos _ (by omega)⟩
    exact Int.tmod_nonneg _ (by omega)
  generalize (p.offset.tmod c + c).tmod c = f at *
  refine ⟨by omega, .inl (by kernel_rfl), ?_⟩
  try simp (disch := omega) [go_sem]
  refine ⟨by omega, ?_⟩
  have hwz := wl_zero s p
  rw [← hwz]
  have hpw0 := ints_pure (wl s p 0)
  refine awz_loop mixed (cl1F s p c f) (fun k => k ≤ s.phases.length) (fun k => s.phases.length - k) 0 (by omega) ?_ ?_
  · refine (Le.mk [(0, some 0), (16, some 16), (32, some 32), (288, some 288), (656, some 656)] [0, 16, 32, 288, 656] ⟨rfl, rfl, rfl⟩ ?_ ?_ ?_) <;> simp [go_sem, cl1F, clS, sitV, plnV, hp1, hp2, hp3, hp4, hp5, hp6, hip, hpw0]
  · intro k hk
    have hpw := ints_pure (wl s p k)
    cases k with
    | zero =>
      simp (disch := omega) [go_sem, cl1F, clS, sitV, plnV, ints_len]
      refine br_of (fun h => ?_) (fun h => ?_) <;> simp at h
      · have hkp : 0 < s.phases.length := by omega
        have hi2 : nth (s.phases.map phaV) 0 = phaV s.phases[0] := nth_map hkp
        have eM : s.phases[0].min = minAt s 0 := by simp [minAt, hkp]
        have hNd : needsN s 0 = minAt s 0 + clearN s 0 ((0 + 1) % s.phases.length) := rfl
        have hl1 : ints (leastL s 1) = [.int .i64 (needsN s 0)] := by simp [leastL, ints]
        have hNk := hN 0 hkp
        have qkk := qk 0 hkp
        have hwb := wishP_bound (p := p) 0 hL hNk.1
        have hab := allC_bound (p := p) hL hN 0 (by omega)
        have hrb2 := restC_bound hN hrb (k := 0) (by omega)
        have hfb := firstC_bound s p 0
        generalize clearN s 0 ((0 + 1) % s.phases.length) = d at *
        rw [hNd] at hNk
        simp (disch := omega) [go_sem, hkp, hi2, phaV, eM]
        refine callK_data qkk [] (by simp [go_sem, hp1, hp2, hp3, hp4, hp5, hp6]) (.inl rfl) (by simp [go_sem]) (fun _ => ?_) (by simp [tabG, go_sem])
        simp (disch := omega) [go_sem, hkp]
        refine ⟨.inl (by kernel_rfl), ?_⟩
        have hn0 : nth (ints (wl s p 0)) 0 = .int .i64 0 := by rw [nth_ints (by rw [wl_len]; exact hkp), wl_at hkp]; simp
        refine br_of (fun h2 => ?_) (fun h2 => ?_) <;> simp [ints_len] at h2
        · have h2' : 0 < p.splits.length := by first | omega | exact List.length_pos_iff.2 h2
          simp (disch := omega) [go_sem, hkp, ints_len, wl_len, nth_ints, h2', hn0]
          refine ⟨.inl (by kernel_rfl), ?_⟩
          have hwe : (if minAt s 0 + d < (if s.high < if (0 : Int) < p.splits[0] then p.splits[0] else (0 : Int) then s.high else if (0 : Int) < p.splits[0] then p.splits[0] else (0 : Int)) then (if s.high < if (0 : Int) < p.splits[0] then p.splits[0] else (0 : Int) then s.high else if (0 : Int) < p.splits[0] then p.splits[0] else (0 : Int)) - (minAt s 0 + d) else 0) = wishP s p 0 := by
            unfold wishP
            rw [hNd, show p.splits.getD 0 0 = p.splits[0] by simp [h2']]
            generalize (if s.high < if (0 : Int) < p.splits[0] then p.splits[0] else (0 : Int) then s.high else if (0 : Int) < p.splits[0] then p.splits[0] else (0 : Int)) = y
            repeat' split
            all_goals omega
          simp only [hwe]
          rw [ints_set, wl_set hkp]
          have hpw' := ints_pure (wl s p (0 + 1))
          have hn1 : nth (ints (wl s p (0 + 1))) 0 = .int .i64 (wishP s p 0) := by rw [nth_ints (by rw [wl_len]; exact hkp), wl_at hkp]; simp
          simp (disch := omega) [go_sem, hkp, ints_len, wl_len, leastL_len, hn1]
          refine br_of (fun h3 => ?_) (fun h3 => ?_)
          · have hf1 := (show firstC s p (0 + 1) = ((0 : Nat) : Int) from firstC_yes ⟨by simpa using h3, by simp [firstC]⟩)
            simp (disch := omega) [go_sem, hkp, ints_len, wl_len, leastL_len, hn1]
            refine round_of 1 (by omega) (by omega) (Le.mk [(0, some 0), (16, some 16), (32, some 32), (288, some 288), (656, some 656), (1008, some 3024)] [0, 16, 32, 288, 656, 3024] ⟨rfl, rfl, rfl⟩ ?_ ?_ ?_) <;> simp [go_sem, cl1F, clS, sitV, plnV, hp1, hp2, hp3, hp4, hp5, hp6, hip, hpw', allC, restC, hf1, hl1, hNd]
          · have hf1 := (show firstC s p (0 + 1) = firstC s p 0 from firstC_no (fun e => by have := e.1; simp at h3; omega))
            simp (disch := omega) [go_sem, hkp, ints_len, wl_len, leastL_len, hn1]
            refine round_of 1 (by omega) (by omega) (Le.mk [(0, some 0), (16, some 16), (32, some 32), (288, some 288), (656, some 656), (1008, some 2992)] [0, 16, 32, 288, 656, 2992] ⟨rfl, rfl, rfl⟩ ?_ ?_ ?_) <;> simp [go_sem, cl1F, clS, sitV, plnV, hp1, hp2, hp3, hp4, hp5, hp6, hip, hpw', allC, restC, hf1, hl1, hNd]
            all_goals rfl
        · have h2' : p.splits.length ≤ 0 := by first | omega | simp [h2]
          have hz := wishP_none (s := s) (p := p) 0 (by omega) (hN 0 hkp).1 h2'
          have hws := wl_same hkp hz
          simp (disch := omega) [go_sem, hkp, ints_len, wl_len, leastL_len, nth_ints, hn0]
          refine round_of 1 (by omega) (by omega) (Le.mk [(0, some 0), (16, some 16), (32, some 32), (288, some 288), (656, some 656), (1008, some 2736)] [0, 16, 32, 288, 656, 2736] ⟨rfl, rfl, rfl⟩ ?_ ?_ ?_) <;> simp [go_sem, cl1F, clS, sitV, plnV, hp1, hp2, hp3, hp4, hp5, hp6, hip, hws, hpw, hz, allC, restC, firstC, hl1, hNd]
      · first | omega | (simp [h] at h8)
    | succ k =>
      simp (disch := omega) [go_sem, cl1F, clS, sitV, plnV, ints_len]
      refine br_of (fun h => ?_) (fun h => ?_) <;> simp at h
      · have hkp : k + 1 < s.phases.length := by omega
        have hi2 : nth (s.phases.map phaV) (k + 1) = phaV s.phases[k + 1] := nth_map hkp
        have eM : s.phases[k + 1].min = minAt s (k + 1) := by simp [minAt, hkp]
        have hNd : needsN s (k + 1) = minAt s (k + 1) + clearN s (k + 1) ((k + 1 + 1) % s.phases.length) := rfl
        have hls : ints (leastL s (k + 1 + 1)) = ints (leastL s (k + 1)) ++ [.int .i64 (needsN s (k + 1))] := by rw [leastL_succ, ints_app]; rfl
        have hpl := ints_pure (leastL s (k + 1))
        have hNk := hN (k + 1) hkp
        have qkk := qk (k + 1) hkp
        have hwb := wishP_bound (p := p) (k + 1) hL hNk.1
        have hab := allC_bound (p := p) hL hN (k + 1) (by omega)
        have hrb2 := restC_bound hN hrb (k := k + 1) (by omega)
        have hfb := firstC_bound s p (k + 1)
        generalize clearN s (k + 1) ((k + 1 + 1) % s.phases.length) = d at *
        rw [hNd] at hNk
        simp (disch := omega) [go_sem, hkp, hi2, phaV, eM]
        refine ⟨by omega, ?_⟩
        refine callK_data qkk [] (by simp [go_sem, hp1, hp2, hp3, hp4, hp5, hp6]) (.inl rfl) (by simp [go_sem]) (fun _ => ?_) (by simp [tabG, go_sem])
        simp (disch := omega) [go_sem, hkp]
        refine ⟨.inl (by kernel_rfl), ?_⟩
        have hn0 : nth (ints (wl s p (k + 1))) (k + 1) = .int .i64 0 := by rw [nth_ints (by rw [wl_len]; exact hkp), wl_at hkp]; simp
        refine br_of (fun h2 => ?_) (fun h2 => ?_) <;> simp [ints_len] at h2
        · have h2' : k + 1 < p.splits.length := by first | omega | exact List.length_pos_iff.2 h2
          simp (disch := omega) [go_sem, hkp, ints_len, wl_len, nth_ints, h2', hn0]
          refine ⟨by omega, by omega, .inl (by kernel_rfl), ?_⟩
          have hwe : (if minAt s (k + 1) + d < (if s.high < if (0 : Int) < p.splits[k + 1] then p.splits[k + 1] else (0 : Int) then s.high else if (0 : Int) < p.splits[k + 1] then p.splits[k + 1] else (0 : Int)) then (if s.high < if (0 : Int) < p.splits[k + 1] then p.splits[k + 1] else (0 : Int) then s.high else if (0 : Int) < p.splits[k + 1] then p.splits[k + 1] else (0 : Int)) - (minAt s (k + 1) + d) else 0) = wishP s p (k + 1) := by
            unfold wishP
            rw [hNd, show p.splits.getD (k + 1) 0 = p.splits[k + 1] by simp [h2']]
            generalize (if s.high < if (0 : Int) < p.splits[k + 1] then p.splits[k + 1] else (0 : Int) then s.high else if (0 : Int) < p.splits[k + 1] then p.splits[k + 1] else (0 : Int)) = y
            repeat' split
            all_goals omega
          simp only [hwe]
          rw [ints_set, wl_set hkp]
          have hpw' := ints_pure (wl s p ((k + 1) + 1))
          have hn1 : nth (ints (wl s p ((k + 1) + 1))) (k + 1) = .int .i64 (wishP s p (k + 1)) := by rw [nth_ints (by rw [wl_len]; exact hkp), wl_at hkp]; simp
          refine ⟨by omega, ?_⟩
          simp (disch := omega) [go_sem, hkp, ints_len, wl_len, leastL_len, hn1]
          refine br_of (fun h3 => ?_) (fun h3 => ?_)
          · have hf1 := (show firstC s p ((k + 1) + 1) = ((k + 1 : Nat) : Int) from firstC_yes (by simpa using h3))
            simp (disch := omega) [go_sem, hkp, ints_len, wl_len, leastL_len, hn1]
            refine ⟨by omega, by omega, ?_⟩
            refine round_of (k + 1 + 1) (by omega) (by omega) (Le.mk [(0, some 0), (16, some 16), (32, some 32), (288, some 288), (656, some 656), (1008, some 1008)] [0, 16, 32, 288, 656, 1008] ⟨rfl, rfl, rfl⟩ ?_ ?_ ?_) <;> simp [go_sem, cl1F, clS, sitV, plnV, hp1, hp2, hp3, hp4, hp5, hp6, hip, hpw', allC, restC, hf1, hNd, hls, hpl]
          · have hf1 := (show firstC s p ((k + 1) + 1) = firstC s p (k + 1) from firstC_no (fun e => by simp [e.1, e.2] at h3))
            simp (disch := omega) [go_sem, hkp, ints_len, wl_len, leastL_len, hn1]
            refine ⟨by omega, by omega, ?_⟩
            refine round_of (k + 1 + 1) (by omega) (by omega) (Le.mk [(0, some 0), (16, some 16), (32, some 32), (288, some 288), (656, some 656), (1008, some 1008)] [0, 16, 32, 288, 656, 1008] ⟨rfl, rfl, rfl⟩ ?_ ?_ ?_) <;> simp [go_sem, cl1F, clS, sitV, plnV, hp1, hp2, hp3, hp4, hp5, hp6, hip, hpw', allC, restC, hf1, hNd, hls, hpl]
        · have h2' : p.splits.length ≤ k + 1 := by first | omega | simp [h2]
          have hz := wishP_none (s := s) (p := p) (k + 1) (by omega) (hN (k + 1) hkp).1 h2'
          have hws := wl_same hkp hz
          simp (disch := omega) [go_sem, hkp, ints_len, wl_len, leastL_len, nth_ints, hn0]
          refine ⟨by omega, by omega, ?_⟩
          refine round_of (k + 1 + 1) (by omega) (by omega) (Le.mk [(0, some 0), (16, some 16), (32, some 32), (288, some 288), (656, some 656), (1008, some 1008)] [0, 16, 32, 288, 656, 1008] ⟨rfl, rfl, rfl⟩ ?_ ?_ ?_) <;> simp [go_sem, cl1F, clS, sitV, plnV, hp1, hp2, hp3, hp4, hp5, hp6, hip, hws, hpw, hz, allC, restC, firstC, hNd, hls, hpl]
      · have hkl : k + 1 = s.phases.length := by omega
        simp (disch := omega) [go_sem, ints_len, leastL_len]
        have hs0 := sl2_zero s p c
        rw [hkl]
        refine awz_loop mixed (cl2F s p c f) (fun m => m ≤ s.phases.length) (fun m => s.phases.length - m) 0 (by omega) ?_ ?_
        · refine (Le.mk [(0, some 0), (16, some 16), (32, some 32), (288, some 288), (656, some 656), (1008, some 1008)] [0, 16, 32, 288, 656, 1008] ⟨rfl, rfl, rfl⟩ ?_ ?_ ?_) <;> simp [go_sem, cl2F, clS, sitV, plnV, hp1, hp2, hp3, hp4, hp5, hp6, hip, hs0, hpw, leftC, ints_pure]
          all_goals omega
        · intro m hm
          have hpw2 := ints_pure (wl s p s.phases.length)
          have hps := ints_pure (sl2 s p c m)
          have hps1 := ints_pure (sl2 s p c (m + 1))
          simp (disch := omega) [go_sem, cl2F, clS, sitV, plnV, ints_len, sl2_len]
          refine br_of (fun g => ?_) (fun g => ?_) <;> simp at g
          · have g' : m < s.phases.length := by omega
            have hnw : nth (ints (wl s p s.phases.length)) m = .int .i64 (wishP s p m) := by rw [nth_ints (by rw [wl_len]; exact g'), wl_at g']; simp [g']
            have hns : nth (ints (sl2 s p c m)) m = .int .i64 (needsN s m) := by rw [nth_ints (by rw [sl2_len]; exact g'), sl2_at g']; simp
            have hset : (ints (sl2 s p c m)).set m (.int .i64 (needsN s m + shareC s p c m)) = ints (sl2 s p c (m + 1)) := by rw [ints_set, sl2_set g']
            have hsb := shareC_bound (p := p) hL hN hrb g'
            have hlb := leftC_bound (p := p) hL hN hrb m (by omega)
            have hnb := hN m g'
            have hab := allC_bound (p := p) hL hN s.phases.length (Nat.le_refl _)
            have hlf : leftC s p c (m + 1) = leftC s p c m - shareC s p c m := rfl
            simp (disch := omega) [go_sem, g', ints_len, wl_len, sl2_len, hnw, hns]
            refine br_of (fun g2 => ?_) (fun g2 => ?_) <;> simp at g2
            · have htd := hsb.2.2.2 g2
              simp (disch := omega) [go_sem, g', ints_len, wl_len, sl2_len, hnw, hns]
              refine ⟨by omega, ?_⟩
              refine round_of (m + 1) (by omega) (by omega) (Le.mk [(0, some 0), (16, some 16), (32, some 32), (288, some 288), (656, some 656), (1008, some 1008)] [0, 16, 32, 288, 656, 1008] ⟨rfl, rfl, rfl⟩ ?_ ?_ ?_) <;> simp [go_sem, cl2F, clS, sitV, plnV, hp1, hp2, hp3, hp4, hp5, hp6, hip, hpw2, hps1, htd, hset, hlf]
            · have hz : shareC s p c m = 0 := by unfold shareC; rw [if_neg (by omega)]
              have hsm := sl2_same g' hz
              simp (disch := omega) [go_sem, g', ints_len, wl_len, sl2_len, hnw, hns]
              refine round_of (m + 1) (by omega) (by omega) (Le.mk [(0, some 0), (16, some 16), (32, some 32), (288, some 288), (656, some 656), (1008, some 1008)] [0, 16, 32, 288, 656, 1008] ⟨rfl, rfl, rfl⟩ ?_ ?_ ?_) <;> simp [go_sem, cl2F, clS, sitV, plnV, hp1, hp2, hp3, hp4, hp5, hp6, hip, hpw2, hps, hsm, hz, hlf]
          · have hml : m = s.phases.length := by omega
            subst hml
            have hfb := firstC_bound s p s.phases.length
            have hlb := leftC_bound (p := p) hL hN hrb s.phases.length (Nat.le_refl _)
            obtain ⟨q, hq, hqe, hqt⟩ : ∃ q : Nat, q < s.phases.length ∧ (if 0 < firstC s p s.phases.length then firstC s p s.phases.length else 0) = (q : Int) ∧ (firstC s p s.phases.length).toNat = q := ⟨(firstC s p s.phases.length).toNat, by omega, by split <;> omega, rfl⟩
            have hsb := (shareC_bound (p := p) hL hN hrb hq).2
            have hnb := hN q hq
            have hns : nth (ints (sl2 s p c s.phases.length)) q = .int .i64 (needsN s q + shareC s p c q) := by rw [nth_ints (by rw [sl2_len]; exact hq), sl2_at hq]; simp [hq]
            have hcl : (ints (sl2 s p c s.phases.length)).set q (.int .i64 (needsN s q + shareC s p c q + leftC s p c s.phases.length)) = ints (clampL s p c) := by
              unfold clampL
              rw [hqt, ints_set, show (sl2 s p c s.phases.length).getD q 0 = needsN s q + shareC s p c q by
                rw [List.getD_eq_getElem?_getD, List.getElem?_eq_getElem (by rw [sl2_len]; exact hq), sl2_at hq]; simp [hq]]
            have hcp := ints_pure (clampL s p c)
            simp (disch := omega) [go_sem, ints_len, sl2_len, hqe, hns, hcl, hq]
            simp [clampL, sl2_len]
end Go.Proofs.YtpijmanjjhpkiaaGreatDoor

namespace Go.Proofs.YtpijmanjjhpkiaaGreatDoor
open Go.AM Go.RowKit
set_option maxRecDepth 100000

theorem sum_set : ∀ (l : List Int) (q : Nat) (h : q < l.length) (x : Int), (l.set q x).sum = l.sum - l[q] + x
  | [], _, h, _ => by simp at h
  | a :: l, 0, _, x => by simp; omega
  | a :: l, q + 1, h, x => by
    have := sum_set l q (by simpa using h) x
    simp only [List.set_cons_succ, List.sum_cons, List.getElem_cons_succ]
    omega
theorem le_sum : ∀ (l : List Int), (∀ i, ∀ h : i < l.length, 0 ≤ l[i]) → 0 ≤ l.sum ∧ ∀ i, ∀ h : i < l.length, l[i] ≤ l.sum
  | [], _ => by simp
  | a :: l, h => by
    have h0 := h 0 (by simp)
    have ih := le_sum l (fun i hi => by have := h (i + 1) (by simpa using hi); simpa using this)
    simp only [List.getElem_cons_zero] at h0
    refine ⟨by simp only [List.sum_cons]; omega, fun i hi => ?_⟩
    cases i with
    | zero => simp only [List.getElem_cons_zero, List.sum_cons]; omega
    | succ i =>
      have := ih.2 i (by simpa using hi)
      simp only [List.getElem_cons_succ, List.sum_cons]; omega
/-- What is shared out of the rest never is more than it. -/
theorem left_mul {s : Sit} {p : Pln} {c : Int} (hL : 0 ≤ s.low ∧ s.high ≤ 1048576) (hN : NeedsOk s) (hc : roundK s s.phases.length ≤ c ∧ c ≤ 1048576) (ha : 0 < allC s p s.phases.length) :
    ∀ k, k ≤ s.phases.length → allC s p s.phases.length * (restC s c s.phases.length - leftC s p c k) ≤ restC s c s.phases.length * allC s p k
  | 0, _ => by simp [leftC, allC]
  | k + 1, h => by
    have ih := left_mul (p := p) hL hN hc ha k (by omega)
    have e : shareC s p c k = restC s c s.phases.length * wishP s p k / allC s p s.phases.length := by unfold shareC; rw [if_pos ha]
    have h1 : allC s p s.phases.length * shareC s p c k ≤ restC s c s.phases.length * wishP s p k := by
      rw [e]; exact Int.mul_ediv_self_le (by omega)
    show allC s p s.phases.length * (restC s c s.phases.length - (leftC s p c k - shareC s p c k)) ≤ restC s c s.phases.length * (allC s p k + wishP s p k)
    rw [show restC s c s.phases.length - (leftC s p c k - shareC s p c k) = (restC s c s.phases.length - leftC s p c k) + shareC s p c k by omega, Int.mul_add, Int.mul_add]
    omega
theorem left_nonneg {s : Sit} {p : Pln} {c : Int} (hL : 0 ≤ s.low ∧ s.high ≤ 1048576) (hN : NeedsOk s) (hc : roundK s s.phases.length ≤ c ∧ c ≤ 1048576) : 0 ≤ leftC s p c s.phases.length := by
  have a1 := restC_bound hN hc (Nat.le_refl s.phases.length)
  by_cases ha : 0 < allC s p s.phases.length
  · have h := left_mul (p := p) hL hN hc ha s.phases.length (Nat.le_refl _)
    rw [Int.mul_comm (restC s c s.phases.length)] at h
    have := Int.le_of_mul_le_mul_left h ha
    omega
  · have : ∀ k, leftC s p c k = restC s c s.phases.length := fun k => by
      induction k with
      | zero => rfl
      | succ k ih =>
        show leftC s p c k - shareC s p c k = _
        rw [ih, show shareC s p c k = 0 by unfold shareC; rw [if_neg ha]]
        omega
    rw [this]; omega
theorem sl2_sum (s : Sit) (p : Pln) (c : Int) : (sl2 s p c s.phases.length).sum + leftC s p c s.phases.length = roundK s s.phases.length + restC s c s.phases.length := by
  have e : sl2 s p c s.phases.length = (List.range s.phases.length).map fun i => needsN s i + shareC s p c i := by
    unfold sl2
    apply List.map_congr_left
    intro i hi
    rw [if_pos (by simpa using hi)]
  rw [e]
  have : ∀ k, ((List.range k).map fun i => needsN s i + shareC s p c i).sum + leftC s p c k = roundK s k + restC s c s.phases.length := fun k => by
    induction k with
    | zero => simp [leftC, roundK]
    | succ k ih =>
      rw [List.range_succ, List.map_append, List.sum_append, roundK_succ]
      show _ + (leftC s p c k - shareC s p c k) = _
      simp only [List.map_cons, List.map_nil, List.sum_cons, List.sum_nil]
      omega
  exact this _

theorem clamp_fits {s : Sit} (p : Pln) (hOk : SiteOk s) : Fits s (clampN s p) := by
  have hL := hOk.low
  have hN := hOk.needs
  have h4 : timedN s = true := hOk 4 (by omega)
  simp [timedN, inN] at h4
  have h8 := (groups_site.1 hOk).2.1.1
  have hrb : roundK s s.phases.length ≤ cycC s p ∧ cycC s p ≤ 1048576 := by unfold cycC; repeat' split <;> omega
  have hcb : s.low ≤ cycC s p ∧ cycC s p ≤ s.high := by unfold cycC; repeat' split <;> omega
  have hc1 : 1 ≤ cycC s p := by omega
  rw [fits_iff hN]
  show (s.low ≤ cycC s p ∧ cycC s p ≤ s.high) ∧ (0 ≤ (p.offset.tmod (cycC s p) + cycC s p).tmod (cycC s p) ∧ (p.offset.tmod (cycC s p) + cycC s p).tmod (cycC s p) ≤ cycC s p - 1) ∧ (clampL s p (cycC s p)).length = s.phases.length ∧ (∀ i, ∀ h : i < (clampL s p (cycC s p)).length, needsN s i ≤ (clampL s p (cycC s p))[i] ∧ (clampL s p (cycC s p))[i] ≤ cycC s p) ∧ (clampL s p (cycC s p)).sum = cycC s p
  generalize cycC s p = c at *
  have hm2 := Int.lt_tmod_of_pos p.offset (show 0 < c by omega)
  have ho1 : 0 ≤ (p.offset.tmod c + c).tmod c := Int.tmod_nonneg _ (by omega)
  have ho2 := Int.tmod_lt_of_pos (p.offset.tmod c + c) (show 0 < c by omega)
  have hfb := firstC_bound s p s.phases.length
  have hln := left_nonneg (p := p) hL hN hrb
  have hlen : (clampL s p c).length = s.phases.length := by simp [clampL, sl2_len]
  have hq : (firstC s p s.phases.length).toNat < s.phases.length := by omega
  have hsum : (clampL s p c).sum = c := by
    have h1 := sl2_sum s p c
    have h2 := restC_round (s := s) (c := c) s.phases.length
    unfold clampL
    rw [sum_set _ _ (by rw [sl2_len]; exact hq), List.getD_eq_getElem?_getD, List.getElem?_eq_getElem (by rw [sl2_len]; exact hq)]
    simp only [Option.getD_some]
    omega
  have hge : ∀ i, ∀ h : i < (clampL s p c).length, needsN s i ≤ (clampL s p c)[i] := fun i h => by
    have hi : i < s.phases.length := by omega
    have hs := (shareC_bound (p := p) hL hN hrb hi).2
    have hat : (sl2 s p c s.phases.length)[i]'(by rw [sl2_len]; exact hi) = needsN s i + shareC s p c i := by rw [sl2_at hi, if_pos hi]
    simp only [clampL, List.getElem_set]
    split
    · rename_i e
      rw [List.getD_eq_getElem?_getD, List.getElem?_eq_getElem (by rw [sl2_len]; exact hq)]
      simp only [Option.getD_some, e, hat]
      omega
    · rw [hat]; omega
  refine ⟨hcb, ⟨ho1, by omega⟩, hlen, fun i h => ⟨hge i h, ?_⟩, hsum⟩
  have := (le_sum (clampL s p c) fun i h => by have := hge i h; have := hN i (by omega); omega).2 i h
  omega
end Go.Proofs.YtpijmanjjhpkiaaGreatDoor

namespace Go.Proofs.YtpijmanjjhpkiaaGreatDoor
open Go.AM Go.RowKit
set_option maxRecDepth 100000

/-- A plan drawn out to a cycle, its first k parts. -/
def drawL (o : Pln) (c : Int) (k : Nat) : List Int := (o.splits.take k).map fun n => n * c / o.cycle
theorem drawL_len {o : Pln} {c : Int} {k : Nat} (h : k ≤ o.splits.length) : (drawL o c k).length = k := by unfold drawL; rw [List.length_map, List.length_take]; omega
theorem drawL_succ {o : Pln} {c : Int} {k : Nat} (h : k < o.splits.length) : drawL o c (k + 1) = drawL o c k ++ [o.splits[k] * c / o.cycle] := by
  unfold drawL; rw [List.take_succ_eq_append_getElem h, List.map_append]; rfl
def drawP (o : Pln) (c : Int) : Pln := ⟨c, o.offset, drawL o c o.splits.length⟩
noncomputable def scaleN (s : Sit) (i : Nat) (c : Int) : Pln := clampN s (if h : i < s.plans.length then drawP s.plans[i] c else ⟨c, 0, []⟩)
theorem scale_fits {s : Sit} (i : Nat) (c : Int) (hOk : SiteOk s) : Fits s (scaleN s i c) := clamp_fits _ hOk

def scF (s : Sit) (o : Pln) (c : Int) : Nat → St
  | 0 => ⟨[(28, .int .i64 0), (27, .int .i64 o.splits.length), (26, .sl 1 (ints o.splits)), (8, .ptr 240 1 0 0), (7, .ptr 64 1 0 0), (6, .ptr 16 1 0 0), (3, .ptr 0 1 0 0), (2, .int .i64 c)], [(240, ⟨.box, 77, 3, [plnV o]⟩), (64, ⟨.box, 77, 3, [.agg [.int .i64 c, .int .i64 o.offset, .nilS]]⟩), (16, ⟨.box, 77, 3, [.agg [.int .i64 0, .int .i64 0, .nilS]]⟩), (0, ⟨.box, 75, 12, [sitV s]⟩)], 2048, [], 51, 0, tabG⟩
  | k + 1 => ⟨[(28, .int .i64 (k + 1 : Nat)), (27, .int .i64 o.splits.length), (26, .sl 1 (ints o.splits)), (8, .ptr 240 1 0 0), (7, .ptr 64 1 0 0), (6, .ptr 16 1 0 0), (3, .ptr 0 1 0 0), (2, .int .i64 c)], [(1008, ⟨.arr, 3, 1, ints (drawL o c (k + 1))⟩), (240, ⟨.box, 77, 3, [plnV o]⟩), (64, ⟨.box, 77, 3, [.agg [.int .i64 c, .int .i64 o.offset, .obj 1008 (k + 1)]]⟩), (16, ⟨.box, 77, 3, [.agg [.int .i64 0, .int .i64 0, .nilS]]⟩), (0, ⟨.box, 75, 12, [sitV s]⟩)], 2048, [], 51, 0, tabG⟩

set_option maxHeartbeats 2000000 in
theorem scale_spec (s : Sit) (i : Nat) (c : Int) (hOk : SiteOk s) (hi : i = 0 ∨ i < s.plans.length) (hc : 0 ≤ c ∧ c ≤ 1048576) : FnD Tryz.prog 120 [sitV s, .int .i64 i, .int .i64 c] (plnV (scaleN s i c)) tabG := by
  have hpu := (⟨grps_pure s.groups, phas_pure s.phases, eyes_pure s.eyes, plns_pure s.plans, sets_pure s.apart, rows_pure s.between⟩ : _ ∧ _ ∧ _ ∧ _ ∧ _ ∧ _)
  obtain ⟨hp1, hp2, hp3, hp4, hp5, hp6⟩ := hpu
  have qc := fun p => clamp_spec s p hOk
  have hN := hOk.needs
  have hL := hOk.low
  have h8 := (groups_site.1 hOk).2.1.1
  have hfs := (groups_site.1 hOk).2.2.2.2.2.2
  have hplp : (plnV (scaleN s i c)).pure := by simp [plnV, go_sem, ints_pure]
  have hpq : ∀ p, (plnV p).pure := fun p => by simp [plnV, go_sem, ints_pure]
  have hsv : sitV s = .agg [.int .i64 s.id, .sl 3 (s.groups.map grpV), .sl 1 (sets s.apart), .sl 1 (rows s.between), .sl 5 (s.phases.map phaV), .sl 4 (s.eyes.map eyeV), .int .i64 s.watch, .int .i64 s.feed, .int .i64 s.heal, .int .i64 s.low, .int .i64 s.high, .sl 3 (s.plans.map plnV)] := rfl
  have hpv : ∀ p, plnV p = .agg [.int .i64 p.cycle, .int .i64 p.offset, .sl 1 (ints p.splits)] := fun _ => rfl
  rw [hsv] at qc ⊢
  refine fnD_of mixed Tryz.func120 rfl rfl (by simp [Tryz.ntmps120]) fun hwf E => ?_
  simp (disch := omega) [go_sem, sets_len, rows_len] at hwf
  simp (disch := omega) [Tryz.ntmps120, go_sem]
  refine br_of (fun h => ?_) (fun h => ?_) <;> simp at h
  · have hip : i < s.plans.length := by omega
    have hg : nth (s.plans.map plnV) i = plnV s.plans[i] := nth_map hip
    have hsc : scaleN s i c = clampN s (drawP s.plans[i] c) := by unfold scaleN; rw [dif_pos hip]
    have hF : Fits s s.plans[i] := by
      have := List.all_eq_true.1 hfs _ (List.getElem_mem hip)
      simpa using this
    rw [hsc]
    simp (disch := omega) [go_sem, hip, hg, hpv]
    generalize s.plans[i] = o at *
    obtain ⟨f1, f2, f3, f4, f5⟩ := (fits_iff hN).1 hF
    have hios := ints_pure o.splits
    have hoc : 1 ≤ o.cycle ∧ o.cycle ≤ 1048576 := by omega
    refine awz_loop mixed (scF s o c) (fun k => k ≤ o.splits.length) (fun k => o.splits.length - k) 0 (by omega) ?_ ?_
    · refine (Le.mk [(0, some 0), (16, some 16), (64, some 64), (240, some 240)] [0, 16, 64, 240] ⟨rfl, rfl, rfl⟩ ?_ ?_ ?_) <;> simp [go_sem, scF, sitV, plnV, hp1, hp2, hp3, hp4, hp5, hp6, hios, ints_len]
    · intro k hk
      have part : ∀ h : k < o.splits.length, (0 ≤ o.splits[k] * c ∧ o.splits[k] * c ≤ 1099511627776) ∧ (o.splits[k] * c).tdiv o.cycle = o.splits[k] * c / o.cycle ∧ 0 ≤ o.splits[k] * c / o.cycle ∧ o.splits[k] * c / o.cycle ≤ 1099511627776 := fun h => by
        have g1 := f4 k h
        have g2 := hN k (by omega)
        have b0 : 0 ≤ o.splits[k] * c := Int.mul_nonneg (by omega) hc.1
        have b1 : o.splits[k] * c ≤ 1048576 * 1048576 := Int.mul_le_mul (by omega) hc.2 hc.1 (by omega)
        refine ⟨⟨b0, by omega⟩, Int.tdiv_eq_ediv_of_nonneg b0, Int.ediv_nonneg b0 (by omega), ?_⟩
        have := Int.ediv_le_self o.cycle b0
        omega
      cases k with
      | zero =>
        simp (disch := omega) [go_sem, scF, sitV, plnV, ints_len]
        refine br_of (fun g => ?_) (fun g => ?_) <;> simp at g
        · have g' : 0 < o.splits.length := by omega
          have hp := part g'
          have hd := drawL_succ (o := o) (c := c) g'
          have hd1 : ints (drawL o c 1) = [.int .i64 (o.splits[0] * c / o.cycle)] := by rw [hd]; simp [drawL, ints]
          simp (disch := omega) [go_sem, g', ints_len, nth_ints]
          refine ⟨by omega, .inl (by kernel_rfl), ?_⟩
          refine round_of 1 (by omega) (by omega) (Le.mk [(0, some 0), (16, some 16), (64, some 64), (240, some 240), (1008, some 2256)] [0, 16, 64, 240, 2256] ⟨rfl, rfl, rfl⟩ ?_ ?_ ?_) <;> simp [go_sem, scF, sitV, plnV, hp1, hp2, hp3, hp4, hp5, hp6, hios, hd1, hp.2.1]
        · first | omega | (simp [g] at f3; omega)
      | succ k =>
        simp (disch := omega) [go_sem, scF, sitV, plnV, ints_len]
        refine br_of (fun g => ?_) (fun g => ?_) <;> simp at g
        · have g' : k + 1 < o.splits.length := by omega
          have hp := part g'
          have hd2 : ints (drawL o c (k + 1 + 1)) = ints (drawL o c (k + 1)) ++ [.int .i64 (o.splits[k + 1] * c / o.cycle)] := by rw [drawL_succ g', ints_app]; rfl
          have hpd := ints_pure (drawL o c (k + 1))
          have hdl := drawL_len (o := o) (c := c) (k := k + 1) (by omega)
          simp (disch := omega) [go_sem, g', ints_len, nth_ints, hdl]
          refine ⟨by omega, by omega, by omega, .inl (by kernel_rfl), ?_⟩
          refine round_of (k + 1 + 1) (by omega) (by omega) (Le.mk [(0, some 0), (16, some 16), (64, some 64), (240, some 240), (1008, some 1008)] [0, 16, 64, 240, 1008] ⟨rfl, rfl, rfl⟩ ?_ ?_ ?_) <;> simp [go_sem, scF, sitV, plnV, hp1, hp2, hp3, hp4, hp5, hp6, hios, hd2, hpd, hp.2.1]
        · have hkl : k + 1 = o.splits.length := by omega
          have hpd := ints_pure (drawL o c o.splits.length)
          have hdl := drawL_len (o := o) (c := c) (k := o.splits.length) (by omega)
          have qd := qc (drawP o c)
          rw [hkl]
          simp (disch := omega) [go_sem, ints_len, hdl]
          refine callK_frz qd [1008] [(1008, ⟨.ro, 3, 1, ints (drawL o c o.splits.length)⟩)] ?_ ?_ (by simp [go_sem, plnV, ints_pure]) (fun _ => ?_) (by simp [tabG, go_sem])
          · simp [go_sem, drawP, plnV, hp1, hp2, hp3, hp4, hp5, hp6, hdl]
            exact ⟨by rw [ints_len, hdl], argsLe_self hpd⟩
          · simp [go_sem, hpd, hdl]
            try exact argsLe_self hpd
          · simp (disch := omega) [go_sem, plnV, ints_len]
  · have hip : ¬ i < s.plans.length := by simp [h]
    have hsc : scaleN s i c = clampN s ⟨c, 0, []⟩ := by unfold scaleN; rw [dif_neg hip]
    rw [hsc]
    simp (disch := omega) [go_sem]
    refine callK_data (qc ⟨c, 0, []⟩) [] (by simp [go_sem, plnV, ints, hp1, hp2, hp3, hp4, hp5, hp6]) (.inl rfl) (by simp [go_sem, plnV, ints_pure]) (fun _ => ?_) (by simp [tabG, go_sem])
    simp (disch := omega) [go_sem, plnV, ints_len]
    trace_state
end Go.Proofs.YtpijmanjjhpkiaaGreatDoor
