/- WedGoes, the plain law: what weds reach is a group. -/
import Derived.Test.YtdeionjkcmpnpaaDoorWedL
set_option linter.unusedSimpArgs false
set_option linter.unusedVariables false
namespace Go.Proofs.YtdeionjkcmpnpaaDoor
open Go.AM Go.RowKit
set_option maxRecDepth 100000

/-! what is reached -/
def rcStep (n : NetN) (l : List (Bool × Int)) (is : List Bool) (i : Nat) : List Bool :=
  if tog l i = true ∧ (is.getD (aAt n i) false = true ∨ is.getD (bAt n i) false = true) then (is.set (aAt n i) true).set (bAt n i) true else is
def rcPass (n : NetN) (l : List (Bool × Int)) (is : List Bool) (k : Nat) : List Bool := (List.range k).foldl (rcStep n l) is
theorem rcPass_succ (n : NetN) (l : List (Bool × Int)) (is : List Bool) (k : Nat) : rcPass n l is (k + 1) = rcStep n l (rcPass n l is k) k := by
  unfold rcPass; rw [List.range_succ, List.foldl_append]; rfl
def rc0 (n : NetN) (i : Nat) : List Bool := (List.replicate n.subs.length false).set i true
def rcK (n : NetN) (l : List (Bool × Int)) (i : Nat) : Nat → List Bool
  | 0 => rc0 n i
  | k + 1 => rcPass n l (rcK n l i k) n.weds.length
def reachN (n : NetN) (l : List (Bool × Int)) (i : Nat) : List Bool := rcK n l i n.subs.length

theorem rcStep_len (n : NetN) (l : List (Bool × Int)) (is : List Bool) (i : Nat) : (rcStep n l is i).length = is.length := by
  unfold rcStep; split <;> simp
theorem rcPass_len (n : NetN) (l : List (Bool × Int)) (is : List Bool) : ∀ k, (rcPass n l is k).length = is.length
  | 0 => rfl
  | k + 1 => by rw [rcPass_succ, rcStep_len, rcPass_len n l is k]
theorem rcK_len (n : NetN) (l : List (Bool × Int)) (i : Nat) : ∀ k, (rcK n l i k).length = n.subs.length
  | 0 => by simp [rcK, rc0]
  | k + 1 => by rw [rcK, rcPass_len, rcK_len n l i k]

theorem maxI_le (a b : Int) : a ≤ maxI a b ∧ b ≤ maxI a b ∧ (maxI a b = a ∨ maxI a b = b) := by unfold maxI; split <;> omega
theorem S_merge {S : Nat → Bool} {x y v : Int} (h : S x.toNat = S y.toNat) : S (mergeV x y v).toNat = S v.toNat := by
  unfold mergeV
  by_cases hc : v = maxI x y
  · rw [if_pos hc, hc]
    have h1 : minI x y = x ∨ minI x y = y := by unfold minI; split <;> omega
    rcases h1 with h1 | h1 <;> rcases (maxI_le x y).2.2 with h2 | h2 <;> rw [h1, h2] <;> first | rfl | exact h | exact h.symm
  · rw [if_neg hc]
/-- A set that weds do not leave. -/
def Clos (n : NetN) (l : List (Bool × Int)) (S : Nat → Bool) : Prop := ∀ i, i < n.weds.length → tog l i = true → S (aAt n i) = S (bAt n i)
theorem grF_conn {n : NetN} {l : List (Bool × Int)} {S : Nat → Bool} (hn : NetOk n) (hS : Clos n l S) : ∀ (f : Nat) (g : List Int), GrOk n g → (∀ j, j < g.length → S (g.getD j 0).toNat = S j) → ∀ j, j < n.subs.length → S ((grF n l f g).getD j 0).toNat = S j
  | 0, g, hg, h, j, hj => h j (by rw [hg.len]; exact hj)
  | f + 1, g, hg, h, j, hj => by
    rw [grF]
    cases hf : firstJ n l g with
    | none => exact h j (by rw [hg.len]; exact hj)
    | some i =>
      have hm := List.mem_of_find?_eq_some hf
      rw [List.mem_range] at hm
      have hi := List.find?_some hf
      unfold joins at hi
      rw [Bool.and_eq_true] at hi
      obtain ⟨ha, hb⟩ := joins_lt (l := l) hn hg hm
      refine grF_conn hn hS f _ (merge_less hn hg hf).1 (fun k hk => ?_) j hj
      have hk' : k < g.length := by simpa [mergeG] using hk
      have e : (mergeG g (g.getD (aAt n i) 0) (g.getD (bAt n i) 0)).getD k 0 = mergeV (g.getD (aAt n i) 0) (g.getD (bAt n i) 0) (g.getD k 0) := by simp [mergeG, hk']
      have hxy : S (g.getD (aAt n i) 0).toNat = S (g.getD (bAt n i) 0).toNat := by rw [h _ ha, h _ hb]; exact hS i hm hi.1
      rw [e, ← h k hk']
      exact S_merge hxy
theorem groups_conn {n : NetN} {l : List (Bool × Int)} {S : Nat → Bool} (hn : NetOk n) (hS : Clos n l S) (j : Nat) (hj : j < n.subs.length) : S ((groupsN n l).getD j 0).toNat = S j := by
  refine grF_conn hn hS _ _ (GrOk.id n) (fun k hk => ?_) j hj
  rw [idK_len] at hk
  simp [idK, hk]

theorem rcStep_or {n : NetN} {l : List (Bool × Int)} {is : List Bool} {i : Nat} (ha : aAt n i < is.length) (hb : bAt n i < is.length) :
    (rcStep n l is i = is ∧ (tog l i = true → is.getD (aAt n i) false = is.getD (bAt n i) false)) ∨ (rcStep n l is i).count false < is.count false := by
  unfold rcStep
  by_cases h : tog l i = true ∧ (is.getD (aAt n i) false = true ∨ is.getD (bAt n i) false = true)
  · rw [if_pos h]
    have c1 := count_set_true ha
    have c2 := count_set_true (l := is.set (aAt n i) true) (a := bAt n i) (by simpa using hb)
    by_cases h1 : is.getD (aAt n i) false = true
    · by_cases h2 : is.getD (bAt n i) false = true
      · left
        have e1 : is.set (aAt n i) true = is := by
          have : is[aAt n i] = true := by simpa [ha] using h1
          conv => lhs; rw [← this]
          exact List.set_getElem_self _
        rw [e1]
        have e2 : is.set (bAt n i) true = is := by
          have : is[bAt n i] = true := by simpa [hb] using h2
          conv => lhs; rw [← this]
          exact List.set_getElem_self _
        exact ⟨e2, fun _ => by rw [h1, h2]⟩
      · right
        have h2' : is.getD (bAt n i) false = false := by simpa using h2
        have e2 : (is.set (aAt n i) true).getD (bAt n i) false = false := by
          rw [getD_set]
          split
          · next e => rw [e.1, h2'] at h1; cases h1
          · exact h2'
        rw [e2] at c2
        simp at c2
        omega
    · right
      have h1' : is.getD (aAt n i) false = false := by simpa using h1
      rw [h1'] at c1
      simp at c1
      omega
  · rw [if_neg h]
    refine .inl ⟨rfl, fun ht => ?_⟩
    cases h1 : is.getD (aAt n i) false <;> cases h2 : is.getD (bAt n i) false
    · rfl
    · exact absurd ⟨ht, .inr h2⟩ h
    · exact absurd ⟨ht, .inl h1⟩ h
    · rfl
theorem wed_lt {n : NetN} (hn : NetOk n) {i : Nat} (hi : i < n.weds.length) : aAt n i < n.subs.length ∧ bAt n i < n.subs.length := by
  obtain ⟨ha, hb⟩ := joins_lt (l := []) hn (GrOk.id n) hi
  rw [idK_len] at ha hb
  exact ⟨ha, hb⟩
theorem rcPass_or {n : NetN} {l : List (Bool × Int)} {is : List Bool} (hn : NetOk n) (hl : is.length = n.subs.length) : ∀ k, k ≤ n.weds.length →
    (rcPass n l is k = is ∧ ∀ i, i < k → tog l i = true → is.getD (aAt n i) false = is.getD (bAt n i) false) ∨ (rcPass n l is k).count false < is.count false
  | 0, _ => .inl ⟨rfl, fun i hi => by omega⟩
  | k + 1, hk => by
    have hw := wed_lt hn (show k < n.weds.length by omega)
    have hlk := rcPass_len n l is k
    have hs := rcStep_or (l := l) (is := rcPass n l is k) (i := k) (n := n) (by omega) (by omega)
    rw [rcPass_succ]
    rcases rcPass_or hn hl k (by omega) (l := l) with ⟨h1, h2⟩ | h1
    · rw [h1] at hs ⊢
      rcases hs with ⟨s1, s2⟩ | s1
      · refine .inl ⟨s1, fun i hi ht => ?_⟩
        by_cases e : i = k
        · rw [e] at ht ⊢; exact s2 ht
        · exact h2 i (by omega) ht
      · exact .inr s1
    · rcases hs with ⟨s1, _⟩ | s1
      · rw [s1]; exact .inr h1
      · exact .inr (by omega)
theorem rcK_or {n : NetN} {l : List (Bool × Int)} {i : Nat} (hn : NetOk n) (hi : i < n.subs.length) : ∀ k,
    (rcPass n l (rcK n l i k) n.weds.length = rcK n l i k) ∨ (rcK n l i k).count false + k + 1 ≤ n.subs.length
  | 0 => by
    right
    have := count_set_true (l := List.replicate n.subs.length false) (a := i) (by simpa using hi)
    have hg : (List.replicate n.subs.length false).getD i false = false := by simp [List.getD_eq_getElem?_getD, hi]
    rw [hg] at this
    simp only [rcK, rc0]
    simp at this ⊢
    omega
  | k + 1 => by
    rcases rcK_or hn hi k (l := l) with h | h
    · left
      rw [rcK, h, h]
    · have hl := rcK_len n l i k
      rcases rcPass_or (l := l) hn hl n.weds.length (Nat.le_refl _) with ⟨h1, _⟩ | h1
      · left
        rw [rcK, h1, h1]
      · right
        rw [rcK]
        omega
theorem reach_clos {n : NetN} {l : List (Bool × Int)} {i : Nat} (hn : NetOk n) (hi : i < n.subs.length) : Clos n l fun j => (reachN n l i).getD j false := by
  have hfix : rcPass n l (reachN n l i) n.weds.length = reachN n l i := by
    rcases rcK_or hn hi n.subs.length (l := l) with h | h
    · exact h
    · omega
  intro k hk ht
  rcases rcPass_or (l := l) (is := reachN n l i) hn (rcK_len _ _ _ _) n.weds.length (Nat.le_refl _) with ⟨_, h⟩ | h
  · exact h k hk ht
  · rw [hfix] at h; omega
theorem rcStep_in {n : NetN} {l : List (Bool × Int)} {is : List Bool} {i : Nat} {p : Nat → Prop} (hp : tog l i = true → (p (aAt n i) ↔ p (bAt n i))) (h : ∀ j, is.getD j false = true → p j) : ∀ j, (rcStep n l is i).getD j false = true → p j := by
  intro j hj
  unfold rcStep at hj
  split at hj
  · next hc =>
    have hab : p (aAt n i) ∧ p (bAt n i) := by
      rcases hc.2 with e | e
      · exact ⟨h _ e, (hp hc.1).1 (h _ e)⟩
      · exact ⟨(hp hc.1).2 (h _ e), h _ e⟩
    rw [getD_set] at hj
    split at hj
    · next e => rw [← e.1]; exact hab.2
    · rw [getD_set] at hj
      split at hj
      · next e => rw [← e.1]; exact hab.1
      · exact h j hj
  · exact h j hj
theorem rcK_in {n : NetN} {l : List (Bool × Int)} {i : Nat} {p : Nat → Prop} (hp : ∀ k, k < n.weds.length → tog l k = true → (p (aAt n k) ↔ p (bAt n k))) (h0 : p i) : ∀ k j, (rcK n l i k).getD j false = true → p j
  | 0, j, hj => by
    simp only [rcK, rc0] at hj
    rw [getD_set] at hj
    split at hj
    · next e => rw [← e.1]; exact h0
    · rw [List.getD_eq_getElem?_getD, List.getElem?_replicate] at hj
      split at hj <;> simp at hj
  | k + 1, j, hj => by
    rw [rcK] at hj
    have key : ∀ m, m ≤ n.weds.length → ∀ j, (rcPass n l (rcK n l i k) m).getD j false = true → p j := by
      intro m
      induction m with
      | zero => intro _ j hj; exact rcK_in hp h0 k j hj
      | succ m ih =>
        intro hm j hj
        rw [rcPass_succ] at hj
        exact rcStep_in (hp m (by omega)) (ih (by omega)) j hj
    exact key _ (Nat.le_refl _) j hj
theorem rcK_self {n : NetN} {l : List (Bool × Int)} {i : Nat} (hi : i < n.subs.length) : ∀ k, (rcK n l i k).getD i false = true
  | 0 => by simp only [rcK, rc0]; rw [getD_set, if_pos ⟨rfl, by simpa using hi⟩]
  | k + 1 => by
    rw [rcK]
    have key : ∀ m, (rcPass n l (rcK n l i k) m).getD i false = true := by
      intro m
      induction m with
      | zero => exact rcK_self hi k
      | succ m ih =>
        rw [rcPass_succ]
        unfold rcStep
        split
        · rw [getD_set]
          split
          · rfl
          · rw [getD_set]
            split
            · rfl
            · exact ih
        · exact ih
    exact key _
/-- What is reached is the group. -/
theorem reach_group {n : NetN} {l : List (Bool × Int)} {i j : Nat} (hn : NetOk n) (hi : i < n.subs.length) (hj : j < n.subs.length) : (reachN n l i).getD j false = decide ((groupsN n l).getD j 0 = (groupsN n l).getD i 0) := by
  have hS := reach_clos (l := l) hn hi
  have h1 := groups_conn hn hS j hj
  have h2 := groups_conn hn hS i hi
  by_cases h : (groupsN n l).getD j 0 = (groupsN n l).getD i 0
  · rw [decide_eq_true h, ← h1]
    rw [h, h2]
    exact rcK_self hi _
  · rw [decide_eq_false h]
    cases hr : (reachN n l i).getD j false with
    | false => rfl
    | true =>
      refine absurd (rcK_in (p := fun j => (groupsN n l).getD j 0 = (groupsN n l).getD i 0) (fun k hk ht => ?_) rfl _ j hr) h
      rw [groups_joined hn hk ht]
theorem reach_first {n : NetN} {l : List (Bool × Int)} {i : Nat} (hn : NetOk n) (hi : i < n.subs.length) :
    0 ≤ (groupsN n l).getD i 0 ∧ (groupsN n l).getD i 0 ≤ (i : Int) ∧ (reachN n l i).getD ((groupsN n l).getD i 0).toNat false = true ∧ ∀ k : Nat, (k : Int) < (groupsN n l).getD i 0 → (reachN n l i).getD k false = false := by
  have hg := groups_ok (l := l) hn
  have hi' : i < (groupsN n l).length := by rw [hg.len]; exact hi
  have e : (groupsN n l).getD i 0 = (groupsN n l)[i] := by simp [hi']
  have hle := hg.le i hi'
  have ho := hg.own i hi'
  rw [e]
  refine ⟨hle.1, hle.2, ?_, fun k hk => ?_⟩
  · rw [reach_group hn hi (by omega), ho, e]; simp
  · have hk' : k < (groupsN n l).length := by omega
    rw [reach_group hn hi (by omega)]
    have := (hg.le k hk').2
    have ek : (groupsN n l).getD k 0 = (groupsN n l)[k] := by simp [hk']
    rw [ek, e, decide_eq_false_iff_not]
    omega

/-! the greatest cycle of a group -/
def cm2K (is : List Bool) (cs : List Int) (k : Nat) : Int := (List.range k).foldl (fun m j => if is.getD j false = true ∧ cs.getD j 0 > m then cs.getD j 0 else m) 0
theorem cm2K_succ (is : List Bool) (cs : List Int) (k : Nat) : cm2K is cs (k + 1) = if is.getD k false = true ∧ cs.getD k 0 > cm2K is cs k then cs.getD k 0 else cm2K is cs k := by
  unfold cm2K; rw [List.range_succ, List.foldl_append]; rfl
theorem cm2K_com {n : NetN} {l : List (Bool × Int)} {cs : List Int} {i : Nat} (hn : NetOk n) (hi : i < n.subs.length) (hc : cs.length = n.subs.length) (h1 : ∀ c ∈ cs, 1 ≤ c) :
    cm2K (reachN n l i) cs n.subs.length = comK (groupsN n l) cs i cs.length := by
  have key : ∀ k, k ≤ n.subs.length → comK (groupsN n l) cs i k = maxI (cs.getD i 0) (cm2K (reachN n l i) cs k) ∧ 0 ≤ cm2K (reachN n l i) cs k ∧ (i < k → cs.getD i 0 ≤ cm2K (reachN n l i) cs k) := by
    intro k
    induction k with
    | zero =>
      intro _
      have : 1 ≤ cs.getD i 0 := by
        have hi' : i < cs.length := by omega
        rw [show cs.getD i 0 = cs[i] by simp [hi']]
        exact h1 _ (List.getElem_mem hi')
      have e1 : comK (groupsN n l) cs i 0 = cs.getD i 0 := rfl
      have e2 : cm2K (reachN n l i) cs 0 = 0 := rfl
      have e3 := maxI_le (cs.getD i 0) 0
      rw [e1, e2]
      exact ⟨by omega, by omega, fun h => by omega⟩
    | succ k ih =>
      intro hk
      obtain ⟨i1, i2, i3⟩ := ih (by omega)
      have hr := reach_group (l := l) hn hi (show k < n.subs.length by omega)
      rw [comK_succ, cm2K_succ, hr]
      by_cases hg : (groupsN n l).getD k 0 = (groupsN n l).getD i 0
      · rw [if_pos hg.symm, decide_eq_true hg, i1]
        have m1 := maxI_le (cs.getD i 0) (cm2K (reachN n l i) cs k)
        have m2 := maxI_le (maxI (cs.getD i 0) (cm2K (reachN n l i) cs k)) (cs.getD k 0)
        by_cases hck : cs.getD k 0 > cm2K (reachN n l i) cs k
        · rw [if_pos ⟨rfl, hck⟩]
          have m3 := maxI_le (cs.getD i 0) (cs.getD k 0)
          refine ⟨by omega, by omega, fun h => ?_⟩
          by_cases e : i = k
          · subst e; omega
          · have := i3 (by omega); omega
        · rw [if_neg (fun e => hck e.2)]
          refine ⟨by omega, i2, fun h => ?_⟩
          by_cases e : i = k
          · subst e; omega
          · exact i3 (by omega)
      · rw [if_neg (fun e => hg e.symm), decide_eq_false hg, if_neg (by simp)]
        refine ⟨i1, i2, fun h => ?_⟩
        by_cases e : i = k
        · exact absurd (by rw [e]) hg
        · exact i3 (by omega)
  obtain ⟨k1, k2, k3⟩ := key _ (Nat.le_refl _)
  rw [hc, k1]
  have := k3 hi
  have m1 := maxI_le (cs.getD i 0) (cm2K (reachN n l i) cs n.subs.length)
  omega

/-! beginnings -/
theorem mod_two {o v c : Int} (ho : 0 ≤ o) (hv : 0 ≤ v) (hc : 1 ≤ c) : ((o - v).tmod c + c).tmod c = (o - v.tmod c + c).tmod c := by
  have b1 : -c < (o - v).tmod c := by
    have := Int.lt_tmod_of_pos (o - v) (show 0 < c by omega)
    omega
  have b2 := tmod_bound hv hc
  rw [Int.tmod_eq_emod_of_nonneg (by omega), Int.tmod_eq_emod_of_nonneg (a := o - v.tmod c + c) (by omega)]
  rw [Int.tmod_def (o - v) c, Int.tmod_def v c]
  have e1 : o - v - c * (o - v).tdiv c + c = (o - v) + c * (1 - (o - v).tdiv c) := by rw [Int.mul_sub, Int.mul_one]; omega
  have e2 : o - (v - c * v.tdiv c) + c = (o - v) + c * (1 + v.tdiv c) := by rw [Int.mul_add, Int.mul_one]; omega
  rw [e1, e2, Int.add_mul_emod_self_left, Int.add_mul_emod_self_left]
def rbT (n : NetN) (l : List (Bool × Int)) (votes : List (Int × Int × Int)) (all : List Int) (s : BgSt) : BgSt := bgPass n l votes all ⟨s.out, s.kn, false⟩ n.weds.length
def rbK (n : NetN) (l : List (Bool × Int)) (votes : List (Int × Int × Int)) (all : List Int) (s : BgSt) : Nat → BgSt
  | 0 => s
  | k + 1 => rbT n l votes all (rbK n l votes all s k)
theorem rbK_front (n : NetN) (l : List (Bool × Int)) (votes : List (Int × Int × Int)) (all : List Int) : ∀ (k : Nat) (s : BgSt), rbK n l votes all s (k + 1) = rbK n l votes all (rbT n l votes all s) k
  | 0, s => rfl
  | k + 1, s => by rw [rbK, rbK_front n l votes all k s]; rfl
theorem bgPass_same {n : NetN} {l : List (Bool × Int)} {votes : List (Int × Int × Int)} {all : List Int} {s : BgSt} : ∀ k, (bgPass n l votes all s k).more = false → s.more = false → bgPass n l votes all s k = s
  | 0, _, _ => rfl
  | k + 1, h, hs => by
    rw [bgPass_succ] at h ⊢
    unfold bgStep at h ⊢
    split at h
    · next hc => rw [if_pos hc]; exact bgPass_same k h hs
    · cases h
theorem bgF_iter {n : NetN} {l : List (Bool × Int)} {votes : List (Int × Int × Int)} {all : List Int} (hn : NetOk n)
    (hv : ∀ i, 0 ≤ ((wedAt n i).offsets.getD ((votes.getD i (0, 0, 0)).1).toNat 0)) (hc : ∀ i, 1 ≤ all.getD i 1 ∧ all.getD i 1 ≤ 1048576) :
    ∀ (c : Nat) (s : BgSt) (f m : Nat), BgOk n s → s.more = true → fcount s ≤ c → bmeas s ≤ f → c + 1 ≤ m → (bgF n l votes all f s).out = (rbK n l votes all s m).out := by
  intro c
  induction c with
  | zero =>
    intro s f m hok hm hfc hf hcm
    obtain ⟨f, rfl⟩ : ∃ f', f = f' + 1 := ⟨f - 1, by unfold bmeas at hf; rw [hm] at hf; simp at hf; omega⟩
    obtain ⟨m, rfl⟩ : ∃ m', m = m' + 1 := ⟨m - 1, by omega⟩
    have hp := bgPass_ok (s := ⟨s.out, s.kn, false⟩) (l := l) (votes := votes) (all := all) hn hv hc ⟨hok.ol, hok.kl, hok.le⟩ rfl n.weds.length (Nat.le_refl _)
    have hfc0 : fcount ⟨s.out, s.kn, false⟩ = fcount s := rfl
    rw [bgF, if_pos hm, rbK_front]
    have hmo : (bgPass n l votes all ⟨s.out, s.kn, false⟩ n.weds.length).more = false := by
      cases h : (bgPass n l votes all ⟨s.out, s.kn, false⟩ n.weds.length).more with
      | false => rfl
      | true => have := hp.2.2 h; omega
    have e : rbT n l votes all s = ⟨s.out, s.kn, false⟩ := bgPass_same _ hmo rfl
    have e2 : bgPass n l votes all ⟨s.out, s.kn, false⟩ n.weds.length = ⟨s.out, s.kn, false⟩ := e
    have e3 : ∀ k, rbK n l votes all ⟨s.out, s.kn, false⟩ k = ⟨s.out, s.kn, false⟩ := by
      intro k
      induction k with
      | zero => rfl
      | succ k ih => rw [rbK, ih]; exact e
    rw [e, e2, e3]
    cases f with
    | zero => rfl
    | succ f => rw [bgF, if_neg (by simp)]
  | succ c ih =>
    intro s f m hok hm hfc hf hcm
    obtain ⟨f, rfl⟩ : ∃ f', f = f' + 1 := ⟨f - 1, by unfold bmeas at hf; rw [hm] at hf; simp at hf; omega⟩
    obtain ⟨m, rfl⟩ : ∃ m', m = m' + 1 := ⟨m - 1, by omega⟩
    have hp := bgPass_ok (s := ⟨s.out, s.kn, false⟩) (l := l) (votes := votes) (all := all) hn hv hc ⟨hok.ol, hok.kl, hok.le⟩ rfl n.weds.length (Nat.le_refl _)
    have hfc0 : fcount ⟨s.out, s.kn, false⟩ = fcount s := rfl
    rw [bgF, if_pos hm, rbK_front]
    cases h : (bgPass n l votes all ⟨s.out, s.kn, false⟩ n.weds.length).more with
    | true =>
      have hlt := hp.2.2 h
      refine ih _ f m hp.1 h (by omega) ?_ (by omega)
      unfold bmeas at hf ⊢
      rw [h]
      rw [hm] at hf
      simp only [if_true] at hf ⊢
      omega
    | false =>
      have e : rbT n l votes all s = ⟨s.out, s.kn, false⟩ := bgPass_same _ h rfl
      have e2 : bgPass n l votes all ⟨s.out, s.kn, false⟩ n.weds.length = ⟨s.out, s.kn, false⟩ := e
      have e3 : ∀ k, rbK n l votes all ⟨s.out, s.kn, false⟩ k = ⟨s.out, s.kn, false⟩ := by
        intro k
        induction k with
        | zero => rfl
        | succ k ih => rw [rbK, ih]; exact e
      rw [e, e2, e3]
      cases f with
      | zero => rfl
      | succ f => rw [bgF, if_neg (by simp)]
theorem fcount_bg0 {n : NetN} {g : List Int} (hn : 1 ≤ n.subs.length) (hg : GrOk n g) : fcount (bg0 n g) + 1 ≤ n.subs.length := by
  have hl := hg.len
  have h0 : 0 < g.length := by omega
  have hz : g[0] = 0 := by have := hg.le 0 h0; simp at this; omega
  have hk : (kn0 g).length = g.length := by simp [kn0]
  have hk0 : 0 < (kn0 g).length := by omega
  have e : (kn0 g)[0] = true := by simp [kn0, hz, h0]
  have hs : kn0 g = true :: (kn0 g).tail := by
    cases hkn : kn0 g with
    | nil => rw [hkn] at hk0; simp at hk0
    | cons b r => simp only [hkn, List.getElem_cons_zero] at e; rw [e]; rfl
  have : fcount (bg0 n g) = (kn0 g).count false := rfl
  rw [this, hs, List.count_cons]
  have := List.count_le_length (a := false) (l := (kn0 g).tail)
  simp at this ⊢
  omega
theorem begin_iter {n : NetN} {l : List (Bool × Int)} {votes : List (Int × Int × Int)} {all : List Int} (hn : NetOk n)
    (hv : ∀ i, 0 ≤ ((wedAt n i).offsets.getD ((votes.getD i (0, 0, 0)).1).toNat 0)) (hc : ∀ i, 1 ≤ all.getD i 1 ∧ all.getD i 1 ≤ 1048576) :
    beginN n l votes all (groupsN n l) = (rbK n l votes all (bg0 n (groupsN n l)) n.subs.length).out := by
  have hg := groups_ok (l := l) hn
  have h1 : 1 ≤ n.subs.length := hn.2.2.1.1.1
  have hf := fcount_bg0 h1 hg
  exact bgF_iter hn hv hc _ _ _ _ (bg0_ok hg.len) rfl (Nat.le_refl _) (Nat.le_refl _) (by omega)
theorem rbK_in {n : NetN} {l : List (Bool × Int)} {votes : List (Int × Int × Int)} {all g : List Int} {s : BgSt} (hn : NetOk n)
    (hv : ∀ i, 0 ≤ ((wedAt n i).offsets.getD ((votes.getD i (0, 0, 0)).1).toNat 0)) (hc : ∀ i, 1 ≤ all.getD i 1 ∧ all.getD i 1 ≤ 1048576)
    (hj : ∀ i, i < n.weds.length → tog l i = true → all.getD (aAt n i) 1 = all.getD (bAt n i) 1) (h : BgIn n all g s) : ∀ k, BgIn n all g (rbK n l votes all s k)
  | 0 => h
  | k + 1 => by
    have ih := rbK_in hn hv hc hj h k
    exact bgPass_in hn hv hc hj (s := ⟨(rbK n l votes all s k).out, (rbK n l votes all s k).kn, false⟩) ⟨⟨ih.ok.ol, ih.ok.kl, ih.ok.le⟩, ih.lt, ih.rt⟩ _ (Nat.le_refl _)
end Go.Proofs.YtdeionjkcmpnpaaDoor
