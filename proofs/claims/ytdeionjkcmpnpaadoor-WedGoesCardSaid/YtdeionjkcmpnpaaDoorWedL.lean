/- WedParts, the plain law: groups part the subs. -/
import Derived.Test.YtdeionjkcmpnpaaDoorWed3
set_option linter.unusedSimpArgs false
set_option linter.unusedVariables false
namespace Go.Proofs.YtdeionjkcmpnpaaDoor
open Go.AM Go.RowKit
set_option maxRecDepth 100000

theorem joins_lt {n : NetN} {l : List (Bool × Int)} {g : List Int} {i : Nat} (hn : NetOk n) (hg : GrOk n g) (hi : i < n.weds.length) : aAt n i < g.length ∧ bAt n i < g.length := by
  have hw := hn.2.2.2.2.2 _ (List.getElem_mem hi)
  obtain ⟨w1, w2, w3, _⟩ := hw
  rw [hg.len]
  exact ⟨by simp [aAt, hi]; omega, by simp [bAt, hi]; omega⟩
theorem merge_less {n : NetN} {l : List (Bool × Int)} {g : List Int} {i : Nat} (hn : NetOk n) (hg : GrOk n g) (h : firstJ n l g = some i) :
    GrOk n (mergeG g (g.getD (aAt n i) 0) (g.getD (bAt n i) 0)) ∧ sumG (mergeG g (g.getD (aAt n i) 0) (g.getD (bAt n i) 0)) < sumG g := by
  have hj := List.find?_some h
  have hm := List.mem_of_find?_eq_some h
  rw [List.mem_range] at hm
  obtain ⟨ha, hb⟩ := joins_lt (l := l) hn hg hm
  have ea : g.getD (aAt n i) 0 = g[aAt n i] := by simp [ha]
  have eb : g.getD (bAt n i) 0 = g[bAt n i] := by simp [hb]
  unfold joins at hj
  rw [Bool.and_eq_true, decide_eq_true_eq] at hj
  rw [ea, eb] at hj ⊢
  have h0 : ∀ v ∈ g, 0 ≤ v := fun v hv => by
    obtain ⟨i, hi, rfl⟩ := List.getElem_of_mem hv
    exact (hg.le i hi).1
  have hmm : minI g[aAt n i] g[bAt n i] < maxI g[aAt n i] g[bAt n i] ∧ 0 ≤ minI g[aAt n i] g[bAt n i] ∧ (maxI g[aAt n i] g[bAt n i] = g[aAt n i] ∨ maxI g[aAt n i] g[bAt n i] = g[bAt n i]) := by
    have := (hg.le _ ha).1
    have := (hg.le _ hb).1
    have := hj.2
    unfold minI maxI; split <;> split <;> omega
  have hmem : maxI g[aAt n i] g[bAt n i] ∈ g := by
    rcases hmm.2.2 with e | e <;> rw [e] <;> exact List.getElem_mem _
  exact ⟨hg.merge ha hb hj.2, sum_merge h0 hmm.1 hmm.2.1 hmem⟩
theorem grF_done {n : NetN} {l : List (Bool × Int)} (hn : NetOk n) : ∀ (f : Nat) (g : List Int), GrOk n g → sumG g ≤ f → firstJ n l (grF n l f g) = none
  | 0, g, hg, hf => by
    cases h : firstJ n l g with
    | none => exact h
    | some i => have := (merge_less hn hg h).2; omega
  | f + 1, g, hg, hf => by
    rw [grF]
    cases h : firstJ n l g with
    | none => exact h
    | some i =>
      obtain ⟨h1, h2⟩ := merge_less hn hg h
      exact grF_done hn f _ h1 (by omega)
/-- No wed that goes together joins two groups. -/
theorem groups_joined {n : NetN} {l : List (Bool × Int)} (hn : NetOk n) {i : Nat} (hi : i < n.weds.length) (ht : tog l i = true) : (groupsN n l).getD (aAt n i) 0 = (groupsN n l).getD (bAt n i) 0 := by
  have h : firstJ n l (groupsN n l) = none := grF_done hn _ _ (GrOk.id n) (Nat.le_refl _)
  unfold firstJ at h
  rw [List.find?_eq_none] at h
  have := h i (by simpa using hi)
  unfold joins at this
  rw [ht] at this
  simpa using this
theorem grF_none {n : NetN} {l : List (Bool × Int)} {g : List Int} (h : firstJ n l g = none) : ∀ f, grF n l f g = g
  | 0 => rfl
  | f + 1 => by rw [grF, h]
theorem groups_apart {n : NetN} {l : List (Bool × Int)} (h : ∀ i, tog l i = false) : groupsN n l = idK n.subs.length n.subs.length := by
  refine grF_none ?_ _
  unfold firstJ
  rw [List.find?_eq_none]
  intro i _
  simp [joins, h i]

/-! the greatest cycle of a group -/
theorem comK_max {g cs : List Int} {i : Nat} (hi : i < cs.length) : ∀ k, k ≤ cs.length →
    (cs.getD i 0 ≤ comK g cs i k) ∧ (∀ j, j < k → g.getD j 0 = g.getD i 0 → cs.getD j 0 ≤ comK g cs i k) ∧ (∃ j, j < cs.length ∧ g.getD j 0 = g.getD i 0 ∧ comK g cs i k = cs.getD j 0)
  | 0, _ => ⟨by simp [comK], fun j h => by omega, i, hi, rfl, by simp [comK]⟩
  | k + 1, hk => by
    obtain ⟨h1, h2, j, hj, hg, he⟩ := comK_max hi k (by omega) (g := g)
    rw [comK_succ]
    by_cases hc : g.getD i 0 = g.getD k 0
    · rw [if_pos hc]
      have hm : comK g cs i k ≤ maxI (comK g cs i k) (cs.getD k 0) ∧ cs.getD k 0 ≤ maxI (comK g cs i k) (cs.getD k 0) := by unfold maxI; split <;> omega
      refine ⟨by omega, fun j' hj' hg' => ?_, ?_⟩
      · by_cases e : j' = k
        · subst e; exact hm.2
        · have := h2 j' (by omega) hg'; omega
      · by_cases h : comK g cs i k < cs.getD k 0
        · exact ⟨k, by omega, hc.symm, by unfold maxI; rw [if_pos h]⟩
        · exact ⟨j, hj, hg, by unfold maxI; rw [if_neg h]; exact he⟩
    · rw [if_neg hc]
      refine ⟨h1, fun j' hj' hg' => ?_, j, hj, hg, he⟩
      by_cases e : j' = k
      · subst e; exact absurd hg'.symm hc
      · exact h2 j' (by omega) hg'
theorem com_ge {g cs : List Int} {i j : Nat} (hi : i < cs.length) (hj : j < cs.length) (h : g.getD j 0 = g.getD i 0) : cs.getD j 0 ≤ (commonG g cs).getD i 1 := by
  rw [commonG_at hi]; exact (comK_max hi _ (Nat.le_refl _)).2.1 j hj h
theorem com_ex {g cs : List Int} {i : Nat} (hi : i < cs.length) : ∃ j, j < cs.length ∧ g.getD j 0 = g.getD i 0 ∧ (commonG g cs).getD i 1 = cs.getD j 0 := by
  rw [commonG_at hi]; exact (comK_max hi _ (Nat.le_refl _)).2.2
theorem com_same {g cs : List Int} {i j : Nat} (hi : i < cs.length) (hj : j < cs.length) (h : g.getD j 0 = g.getD i 0) : (commonG g cs).getD j 1 = (commonG g cs).getD i 1 := by
  obtain ⟨a, ha, ga, ea⟩ := com_ex (g := g) hi
  obtain ⟨b, hb, gb, eb⟩ := com_ex (g := g) hj
  have h1 := com_ge (g := g) hi hb (by rw [gb, h])
  have h2 := com_ge (g := g) hj ha (by rw [ga, h])
  omega

/-! beginnings -/
structure BgIn (n : NetN) (all g : List Int) (s : BgSt) : Prop where
  ok : BgOk n s
  lt : ∀ i, i < n.subs.length → s.out.getD i 0 < all.getD i 1
  rt : ∀ i, i < n.subs.length → g.getD i 0 = (i : Int) → s.kn.getD i false = true ∧ s.out.getD i 0 = 0
theorem getD_set {α : Type} {l : List α} {a i : Nat} {v d : α} : (l.set a v).getD i d = if a = i ∧ a < l.length then v else l.getD i d := by
  simp only [List.getD_eq_getElem?_getD, List.getElem?_set]
  by_cases e : a = i
  · subst e
    by_cases h : a < l.length
    · simp [h]
    · simp [h]
  · simp [e]
theorem bgStep_in {n : NetN} {l : List (Bool × Int)} {votes : List (Int × Int × Int)} {all g : List Int} {s : BgSt} {i : Nat} (hn : NetOk n) (hi : i < n.weds.length)
    (hv : 0 ≤ ((wedAt n i).offsets.getD ((votes.getD i (0, 0, 0)).1).toNat 0)) (hc : ∀ i, 1 ≤ all.getD i 1 ∧ all.getD i 1 ≤ 1048576)
    (hj : tog l i = true → all.getD (aAt n i) 1 = all.getD (bAt n i) 1) (h : BgIn n all g s) : BgIn n all g (bgStep n l votes all s i) := by
  have hok := (bgStep_ok (l := l) (votes := votes) hn hi hv hc h.ok).1
  have hw := hn.2.2.2.2.2 _ (List.getElem_mem hi)
  obtain ⟨w1, w2, w3, _⟩ := hw
  have ha : aAt n i < n.subs.length := by simp [aAt, hi]; omega
  have hb : bAt n i < n.subs.length := by simp [bAt, hi]; omega
  refine ⟨hok, ?_, ?_⟩
  · intro j hj'
    unfold bgStep
    split
    · exact h.lt j hj'
    · next hne =>
      simp only [not_or] at hne
      obtain ⟨ht, hk⟩ := hne
      have ht' : tog l i = true := by simpa using ht
      have hab := hj ht'
      have hca := hc (aAt n i)
      have hlj := h.lt j hj'
      generalize hcc : all.getD (aAt n i) 1 = c at *
      generalize (wedAt n i).offsets.getD ((votes.getD i (0, 0, 0)).1).toNat 0 = v at *
      have hbb := tmod_bound hv hca.1
      have k1 := tmod_bound (x := s.out.getD (aAt n i) 0 + v) (by have := (h.ok.le (aAt n i)).1; omega) hca.1
      have k2 := tmod_bound (x := s.out.getD (bAt n i) 0 - v.tmod c + c) (by have := (h.ok.le (bAt n i)).1; omega) hca.1
      simp only
      split
      · rw [getD_set]
        split
        · next e => rw [← e.1, ← hab]; exact k1.2
        · exact hlj
      · rw [getD_set]
        split
        · next e => rw [← e.1, hcc]; exact k2.2
        · exact hlj
  · intro j hj' hg
    obtain ⟨r1, r2⟩ := h.rt j hj' hg
    unfold bgStep
    split
    · exact ⟨r1, r2⟩
    · next hne =>
      simp only [not_or] at hne
      obtain ⟨ht, hk⟩ := hne
      refine ⟨?_, ?_⟩
      · simp only
        rw [getD_set]
        split
        · rfl
        · rw [getD_set]
          split
          · rfl
          · exact r1
      · simp only
        split
        · next hka =>
          rw [getD_set, if_neg]
          · exact r2
          · rintro ⟨e, _⟩
            rw [← e] at r1
            rw [hka, r1] at hk
            exact hk rfl
        · next hka =>
          rw [getD_set, if_neg]
          · exact r2
          · rintro ⟨e, _⟩
            rw [← e] at r1
            exact hka r1
theorem bgPass_in {n : NetN} {l : List (Bool × Int)} {votes : List (Int × Int × Int)} {all g : List Int} {s : BgSt} (hn : NetOk n)
    (hv : ∀ i, 0 ≤ ((wedAt n i).offsets.getD ((votes.getD i (0, 0, 0)).1).toNat 0)) (hc : ∀ i, 1 ≤ all.getD i 1 ∧ all.getD i 1 ≤ 1048576)
    (hj : ∀ i, i < n.weds.length → tog l i = true → all.getD (aAt n i) 1 = all.getD (bAt n i) 1) (h : BgIn n all g s) : ∀ k, k ≤ n.weds.length → BgIn n all g (bgPass n l votes all s k)
  | 0, _ => h
  | k + 1, hk => by
    rw [bgPass_succ]
    exact bgStep_in hn (by omega) (hv k) hc (hj k (by omega)) (bgPass_in hn hv hc hj h k (by omega))
theorem bgF_in {n : NetN} {l : List (Bool × Int)} {votes : List (Int × Int × Int)} {all g : List Int} (hn : NetOk n)
    (hv : ∀ i, 0 ≤ ((wedAt n i).offsets.getD ((votes.getD i (0, 0, 0)).1).toNat 0)) (hc : ∀ i, 1 ≤ all.getD i 1 ∧ all.getD i 1 ≤ 1048576)
    (hj : ∀ i, i < n.weds.length → tog l i = true → all.getD (aAt n i) 1 = all.getD (bAt n i) 1) : ∀ (f : Nat) (s : BgSt), BgIn n all g s → BgIn n all g (bgF n l votes all f s)
  | 0, s, h => h
  | f + 1, s, h => by
    rw [bgF]
    split
    · exact bgF_in hn hv hc hj f _ (bgPass_in hn hv hc hj (s := ⟨s.out, s.kn, false⟩) ⟨⟨h.ok.ol, h.ok.kl, h.ok.le⟩, h.lt, h.rt⟩ _ (Nat.le_refl _))
    · exact h
theorem bg0_in {n : NetN} {all g : List Int} (hg : g.length = n.subs.length) (hc : ∀ i, 1 ≤ all.getD i 1 ∧ all.getD i 1 ≤ 1048576) : BgIn n all g (bg0 n g) := by
  have hz : ∀ i, (bg0 n g).out.getD i 0 = 0 := fun i => by
    simp only [bg0, List.getD_eq_getElem?_getD, List.getElem?_replicate]
    split <;> rfl
  refine ⟨bg0_ok hg, fun i hi => ?_, fun i hi h => ⟨?_, hz i⟩⟩
  · rw [hz]; have := (hc i).1; omega
  · have hi' : i < g.length := by omega
    simp [bg0, kn0, hi', List.getD_eq_getElem?_getD] at h ⊢
    exact h

/-- THE STAGE'S THEOREM. -/
structure PartsOk (n : NetN) (l : List (Bool × Int)) (cs g c o : List Int) : Prop where
  gl : g.length = n.subs.length
  cl : c.length = n.subs.length
  ol : o.length = n.subs.length
  sl : cs.length = n.subs.length
  joined : ∀ i, i < n.weds.length → tog l i = true → g.getD (aAt n i) 0 = g.getD (bAt n i) 0 ∧ c.getD (aAt n i) 1 = c.getD (bAt n i) 1
  gr : ∀ i, i < n.subs.length → 0 ≤ g.getD i 0 ∧ g.getD i 0 ≤ (i : Int) ∧ g.getD (g.getD i 0).toNat 0 = g.getD i 0
  og : ∀ i, i < n.subs.length → 0 ≤ o.getD i 0 ∧ o.getD i 0 < c.getD i 1 ∧ (g.getD i 0 = (i : Int) → o.getD i 0 = 0)
  alone : (∀ i, tog l i = false) → ∀ i, i < n.subs.length → g.getD i 0 = (i : Int) ∧ c.getD i 1 = cs.getD i 0
  most : ∀ i k, i < n.subs.length → k < n.subs.length → g.getD k 0 = g.getD i 0 → cs.getD k 0 ≤ c.getD i 1 ∧ c.getD k 1 = c.getD i 1
  has : ∀ i, i < n.subs.length → ∃ k, k < n.subs.length ∧ g.getD k 0 = g.getD i 0 ∧ cs.getD k 0 = c.getD i 1
theorem parts_ok {n : NetN} {l : List (Bool × Int)} {votes : List (Int × Int × Int)} {cs : List Int} (h : offsC n l votes cs = 0) :
    PartsOk n l cs (groupsN n l) (commonG (groupsN n l) cs) (beginN n l votes (commonG (groupsN n l) cs) (groupsN n l)) := by
  obtain ⟨h1, h2, h3, h4⟩ := offsC_ok h
  obtain ⟨hn, hl, _⟩ := bonded_ok h1
  obtain ⟨hk, hcs⟩ := cycled_ok h4
  have hg := groups_ok (l := l) hn
  have hcb : ∀ c ∈ cs, 1 ≤ c ∧ c ≤ 1048576 := fun c hc => cyc_bound hn.1 (hcs c hc)
  have hab := commonG_bound (g := groupsN n l) hcb
  have hjo : ∀ i, i < n.weds.length → tog l i = true → (groupsN n l).getD (aAt n i) 0 = (groupsN n l).getD (bAt n i) 0 ∧ (commonG (groupsN n l) cs).getD (aAt n i) 1 = (commonG (groupsN n l) cs).getD (bAt n i) 1 := fun i hi ht => by
    have e := groups_joined hn hi ht
    obtain ⟨ha, hb⟩ := joins_lt (l := l) hn hg hi
    rw [hg.len] at ha hb
    exact ⟨e, com_same (by omega) (by omega) e⟩
  have hby : ∀ i, 0 ≤ (wedAt n i).offsets.getD ((votes.getD i (0, 0, 0)).1).toNat 0 := fun i => by
    unfold wedAt
    by_cases hi : i < n.weds.length
    · have hw := (hn.2.2.2.2.2 _ (List.getElem_mem hi)).2.2.2.2.2
      simp only [List.getD_eq_getElem?_getD, List.getElem?_eq_getElem hi, Option.getD_some]
      generalize ((votes[i]?).getD (0, 0, 0)).1.toNat = j
      by_cases hj : j < n.weds[i].offsets.length
      · simp only [List.getElem?_eq_getElem hj, Option.getD_some]
        exact (hw _ (List.getElem_mem hj)).1
      · simp [hj]
    · simp [hi]
  have hbg := bgF_in hn hby hab (fun i hi ht => (hjo i hi ht).2) (bmeas (bg0 n (groupsN n l))) _ (bg0_in hg.len hab)
  have hgr : ∀ i, i < n.subs.length → 0 ≤ (groupsN n l).getD i 0 ∧ (groupsN n l).getD i 0 ≤ (i : Int) ∧ (groupsN n l).getD ((groupsN n l).getD i 0).toNat 0 = (groupsN n l).getD i 0 := fun i hi => by
    have hi' : i < (groupsN n l).length := by rw [hg.len]; exact hi
    have e : (groupsN n l).getD i 0 = (groupsN n l)[i] := by simp [hi']
    rw [e]
    exact ⟨(hg.le i hi').1, (hg.le i hi').2, hg.own i hi'⟩
  refine ⟨hg.len, by rw [commonG_len, hk], hbg.ok.ol, hk, hjo, hgr, fun i hi => ⟨(hbg.ok.le i).1, hbg.lt i hi, fun e => (hbg.rt i hi e).2⟩, fun ha i hi => ?_, fun i k hi hk' he => ⟨com_ge (by omega) (by omega) he, com_same (by omega) (by omega) he⟩, fun i hi => ?_⟩
  · have e := groups_apart (n := n) ha
    have hid : ∀ j, j < n.subs.length → (groupsN n l).getD j 0 = (j : Int) := fun j hj => by
      rw [e]; simp [idK, hj, List.getD_eq_getElem?_getD]
    refine ⟨hid i hi, ?_⟩
    obtain ⟨j, hj, hgj, hcj⟩ := com_ex (g := groupsN n l) (cs := cs) (i := i) (by omega)
    rw [hid j (by omega), hid i hi] at hgj
    have : j = i := by omega
    subst this
    exact hcj
  · obtain ⟨j, hj, hgj, hcj⟩ := com_ex (g := groupsN n l) (cs := cs) (i := i) (by omega)
    exact ⟨j, by omega, hgj, hcj.symm⟩
end Go.Proofs.YtdeionjkcmpnpaaDoor
