/- Contracts of the functions that count votes: slices.IndexFunc and ContainsFunc over numbers, cycle.span, cycle.Tally, and the document's own. -/
import Derived.Test.YtnikgmdpnlfbiaaFacts
namespace Go.Proofs.Ytnikgmdpnlfbiaa
open Go.AM

def idx (p : V → Bool) (xs : List V) : Int := match xs.findIdx? p with | some i => i | none => -1

theorem idx_yes {p : V → Bool} {xs : List V} {k : Nat} (h : k < xs.length) (hno : ∀ j (hj : j < xs.length), j < k → p xs[j] = false) (hk : p xs[k] = true) : idx p xs = k := by
  have : xs.findIdx? p = some k := by
    rw [List.findIdx?_eq_some_iff_getElem]
    exact ⟨h, hk, fun j hj => by simp [hno j (by omega) hj]⟩
  simp [idx, this]
theorem idx_no {p : V → Bool} {xs : List V} (hno : ∀ j (hj : j < xs.length), p xs[j] = false) : idx p xs = -1 := by
  have : xs.findIdx? p = none := by
    rw [List.findIdx?_eq_none_iff]
    intro x hx
    obtain ⟨j, hj, rfl⟩ := List.getElem_of_mem hx
    exact hno j hj
  simp [idx, this]

theorem indexFunc_spec (xs : List V) (g : FuncId) (fst caps : List V) (p : V → Bool) (hpf : pures fst) (hpc : pures caps) (hx : ∀ x ∈ xs, partV Try.prog 3 x 0 = some x ∧ x.pure) (hp : ∀ x ∈ xs, FnD Try.prog g (fst ++ [x] ++ caps) (.bool (p x))) :
    FnD Try.prog 28 [.sl 1 xs, .func (.func g) fst caps] (.int .i64 (idx p xs)) := by
  refine fnD_of mixed Try.func28 rfl rfl (by simp [Try.ntmps28]) fun hwf E => ?_
  simp (disch := omega) [Try.ntmps28, go_sem] at hwf ⊢
  refine awz_loop mixed (fun k : Nat => ⟨[(0, .sl 1 xs), (1, .func (.func g) fst caps), (7, .int .i64 xs.length), (8, .int .i64 k), (4, .int .i64 0)], [], 8, [], 19⟩)
    (fun k => k ≤ xs.length ∧ ∀ j (hj : j < xs.length), j < k → p xs[j] = false) (fun k => xs.length - k) 0 (by simp) ?_ ?_
  · refine Le.mk [] [] rfl ?_ ?_ ?_ <;> simp [go_sem, vsLe_self, hpf, hpc]
  · rintro k ⟨hk, hno⟩
    simp (disch := omega) [go_sem]
    refine br_of (fun h => ?_) (fun h => ?_)
    · simp at h
      have hm : xs[k] ∈ xs := List.getElem_mem h
      simp (disch := omega) [go_sem, h, (hx _ hm).1]
      refine callK_data (hp _ hm) [] ?_ (.inl rfl) (by simp [go_sem]) fun hw => ?_
      · simp (disch := omega) [go_sem]
        have ha := argsLe_self (hp := AM.look []) (bor := []) (fst ++ [xs[k]] ++ caps) (by simp [go_sem, hpf, hpc, (hx _ hm).2])
        simpa [AM.look] using ha
      · simp (disch := omega) [go_sem]
        refine br_of (fun h2 => ?_) (fun h2 => ?_)
        · simp (disch := omega) [go_sem]
          exact (idx_yes h hno h2).symm
        · simp (disch := omega) [go_sem]
          refine round_of (k + 1) ⟨h, fun j hj hk' => ?_⟩ (by omega) (Le.mk [] [] rfl ?_ ?_ ?_)
          · by_cases e : j = k
            · subst e; exact h2
            · exact hno j hj (by omega)
          all_goals simp (disch := omega) [go_sem, vsLe_self, *]
    · simp at h
      simp (disch := omega) [go_sem]
      exact (idx_no fun j hj => hno j hj (by omega)).symm

theorem idx_nonneg (p : V → Bool) (xs : List V) : decide (idx p xs ≥ 0) = xs.any p := by
  unfold idx
  cases h : xs.findIdx? p with
  | none =>
    have := List.findIdx?_eq_none_iff.1 h
    have : xs.any p = false := by simpa using this
    simp [this]
  | some i =>
    have := List.findIdx?_eq_some_iff_getElem.1 h
    obtain ⟨hi, hp, _⟩ := this
    have : xs.any p = true := List.any_eq_true.2 ⟨_, List.getElem_mem hi, hp⟩
    simp [this]

theorem containsFunc_spec (xs : List V) (g : FuncId) (fst caps : List V) (p : V → Bool) (hpf : pures fst) (hpc : pures caps) (hx : ∀ x ∈ xs, partV Try.prog 3 x 0 = some x ∧ x.pure) (hp : ∀ x ∈ xs, FnD Try.prog g (fst ++ [x] ++ caps) (.bool (p x))) :
    FnD Try.prog 25 [.sl 1 xs, .func (.func g) fst caps] (.bool (xs.any p)) := by
  refine fnD_of mixed Try.func25 rfl rfl (by simp [Try.ntmps25]) fun hwf E => ?_
  simp (disch := omega) [Try.ntmps25, go_sem] at hwf ⊢
  refine callK_data (indexFunc_spec xs g fst caps p hpf hpc hx hp) [] ?_ (.inl rfl) (by simp [go_sem]) fun hw => ?_
  · simp [go_sem, hpf, hpc]
  · simp (disch := omega) [go_sem]
    simpa using idx_nonneg p xs

def inM (n : Int) : Bool := decide (0 ≤ n) && decide (n ≤ 1048576)

theorem span1_spec (n : Int) : FnD Try.prog 26 [.int .i64 n] (.bool (decide (n < 0) || decide (n > 1048576))) := by
  refine fnD_of mixed Try.func26 rfl rfl (by simp [Try.ntmps26]) fun hwf E => ?_
  simp [Try.ntmps26, go_sem]

def ints (l : List Int) : List V := l.map fun n => .int .i64 n
theorem ints_len (l : List Int) : (ints l).length = l.length := by simp [ints]
theorem nth_ints {l : List Int} {k : Nat} (h : k < l.length) : nth (ints l) k = .int .i64 l[k] := by rw [ints, nth_map h]
def outV : V → Bool
  | .int _ n => decide (n < 0) || decide (n > 1048576)
  | _ => false

theorem span_spec (l : List Int) : FnD Try.prog 18 [.sl 1 (ints l)] (.bool (l.all inM)) := by
  refine fnD_of mixed Try.func18 rfl rfl (by simp [Try.ntmps18]) fun hwf E => ?_
  simp (disch := omega) [Try.ntmps18, go_sem] at hwf ⊢
  refine callK_data (containsFunc_spec (ints l) 26 [] [] outV (by simp [go_sem]) (by simp [go_sem]) (fun x hx => ?_) (fun x hx => ?_)) [] ?_ (.inl rfl) (by simp [go_sem]) fun hw => ?_
  · obtain ⟨n, _, rfl⟩ := List.mem_map.1 hx
    simp [go_sem]
  · obtain ⟨n, _, rfl⟩ := List.mem_map.1 hx
    exact span1_spec n
  · simp [go_sem]
  · simp (disch := omega) [go_sem]
    unfold ints outV inM
    rw [Bool.eq_iff_iff]
    simp
    constructor
    · rintro ⟨n, hn, h⟩
      exact ⟨n, hn, by omega⟩
    · rintro ⟨n, hn, h⟩
      exact ⟨n, hn, by omega⟩

def voteV (r : Int × Int × Int) : V := .agg [.int .i64 r.1, .int .i64 r.2.1, .int .i64 r.2.2]
/-- A vote that may be, behind a wish (the plain law): its Now, Wish and Many. -/
def heardN (now wish0 many wish need : Int) : Int × Int × Int :=
  if wish = now then (now, now, 0)
  else if wish = wish0 ∧ 0 < many then if need ≤ many + 1 then (wish, wish, 0) else (now, wish, many + 1)
  else if need ≤ 1 then (wish, wish, 0) else (now, wish, 1)
/-- A vote behind a wish, and the error. -/
def tallyN (now wish0 many wish need : Int) : (Int × Int × Int) × Int :=
  if (!inM now || (!inM wish0 || (!inM many || (!inM wish || !inM need))) || need == 0) = true then ((0, 0, 0), 2)
  else (heardN now wish0 many wish need, 0)
def voteE (r : (Int × Int × Int) × Int) : V := .tup [voteV r.1, .int .i64 r.2]

section
variable {now wish0 many wish need : Int}
theorem tallyN_bad (h : (!inM now || (!inM wish0 || (!inM many || (!inM wish || !inM need))) || need == 0) = true) : tallyN now wish0 many wish need = ((0, 0, 0), 2) := by
  simp only [tallyN, h, if_true]
theorem tallyN_ok (h : (!inM now || (!inM wish0 || (!inM many || (!inM wish || !inM need))) || need == 0) = false) : tallyN now wish0 many wish need = (heardN now wish0 many wish need, 0) := by
  simp only [tallyN, h, Bool.false_eq_true, if_false]
theorem heardN_eq (h1 : wish = now) : heardN now wish0 many wish need = (now, now, 0) := by
  simp only [heardN, if_pos h1]
theorem heardN_up (h1 : ¬ wish = now) (h2 : wish = wish0 ∧ 0 < many) (h3 : need ≤ many + 1) : heardN now wish0 many wish need = (wish, wish, 0) := by
  simp only [heardN, if_neg h1, if_pos h2, if_pos h3]
theorem heardN_more (h1 : ¬ wish = now) (h2 : wish = wish0 ∧ 0 < many) (h3 : many + 1 < need) : heardN now wish0 many wish need = (now, wish, many + 1) := by
  simp only [heardN, if_neg h1, if_pos h2, if_neg (by omega : ¬ need ≤ many + 1)]
theorem heardN_up1 (h1 : ¬ wish = now) (h2 : wish = wish0 → many ≤ 0) (h3 : need ≤ 1) : heardN now wish0 many wish need = (wish, wish, 0) := by
  have e2 : ¬ (wish = wish0 ∧ 0 < many) := fun ⟨a, b⟩ => by have := h2 a; omega
  simp only [heardN, if_neg h1, if_neg e2, if_pos h3]
theorem heardN_one (h1 : ¬ wish = now) (h2 : wish = wish0 → many ≤ 0) (h3 : 1 < need) : heardN now wish0 many wish need = (now, wish, 1) := by
  have e2 : ¬ (wish = wish0 ∧ 0 < many) := fun ⟨a, b⟩ => by have := h2 a; omega
  simp only [heardN, if_neg h1, if_neg e2, if_neg (by omega : ¬ need ≤ 1)]
end

theorem tally_spec (now wish0 many wish need : Int) : FnD Try.prog 9 [voteV (now, wish0, many), .int .i64 wish, .int .i64 need] (voteE (tallyN now wish0 many wish need)) := by
  unfold voteV
  refine fnD_of mixed Try.func9 rfl rfl (by simp [Try.ntmps9]) fun hwf E => ?_
  simp (disch := omega) [go_sem] at hwf
  simp (disch := omega) [Try.ntmps9, go_sem]
  refine callK_data (span_spec [now, wish0, many, wish, need]) [11] ?_ (.inr (by simp [go_sem])) (by simp [go_sem]) fun hw => ?_
  · simp [go_sem, ints]
  · simp (disch := omega) [go_sem]
    refine br_of (fun h => ?_) (fun h => ?_)
    · simp (disch := omega) [go_sem, voteE, voteV, tallyN_bad h]
    · have hm : many + 1 ≤ 9223372036854775807 ∧ -9223372036854775808 ≤ many + 1 := by
        simp [inM] at h; omega
      simp (disch := omega) [go_sem]
      refine br_of (fun h1 => ?_) (fun h1 => ?_) <;> simp at h1
      · have e := heardN_eq (wish0 := wish0) (many := many) (need := need) h1
        simp (disch := omega) [go_sem, tallyN_ok h, e, voteE, voteV]
      · simp (disch := omega) [go_sem]
        refine br_of (fun h2 => ?_) (fun h2 => ?_) <;> simp at h2
        · simp (disch := omega) [go_sem]
          refine br_of (fun h3 => ?_) (fun h3 => ?_) <;> simp at h3
          · simp (disch := omega) [go_sem, tallyN_ok h, heardN_up h1 h2 h3, voteE, voteV]
          · simp (disch := omega) [go_sem, tallyN_ok h, heardN_more h1 h2 h3, voteE, voteV]
        · simp (disch := omega) [go_sem]
          refine br_of (fun h3 => ?_) (fun h3 => ?_) <;> simp at h3
          · simp (disch := omega) [go_sem, tallyN_ok h, heardN_up1 h1 h2 h3, voteE, voteV]
          · simp (disch := omega) [go_sem, tallyN_ok h, heardN_one h1 h2 h3, voteE, voteV]

/-! the document's own -/
theorem rin_spec (n : Int) : FnD Try.prog 20 [.int .i64 n] (.bool (inM n)) := by
  refine fnD_of mixed Try.func20 rfl rfl (by simp [Try.ntmps20]) fun hwf E => ?_
  simp (disch := omega) [Try.ntmps20, go_sem]
  rfl

theorem may_spec (now wish many : Int) : FnD Try.prog 19 [voteV (now, wish, many)] (.bool (inM now && inM wish && inM many)) := by
  unfold voteV
  refine fnD_of mixed Try.func19 rfl rfl (by simp [Try.ntmps19]) fun hwf E => ?_
  simp (disch := omega) [Try.ntmps19, go_sem]
  refine callK_data (rin_spec now) [] (by simp [go_sem]) (.inl rfl) (by simp [go_sem]) fun _ => ?_
  simp (disch := omega) [go_sem]
  refine gbr_of (fun h1 => ?_) (fun h1 => ?_) <;> simp only [h1]
  · simp (disch := omega) [go_sem]
    refine callK_data (rin_spec wish) [] (by simp [go_sem]) (.inl rfl) (by simp [go_sem]) fun _ => ?_
    simp (disch := omega) [go_sem]
    refine gbr_of (fun h2 => ?_) (fun h2 => ?_) <;> simp only [h2]
    · simp (disch := omega) [go_sem]
      refine callK_data (rin_spec many) [] (by simp [go_sem]) (.inl rfl) (by simp [go_sem]) fun _ => ?_
      simp (disch := omega) [go_sem]
    · simp (disch := omega) [go_sem]
  · simp (disch := omega) [go_sem]

theorem heard_spec (now wish0 many wish need : Int) (hm : many + 1 ≤ 9223372036854775807) : FnD Try.prog 21 [voteV (now, wish0, many), .int .i64 wish, .int .i64 need] (voteV (heardN now wish0 many wish need)) := by
  unfold voteV
  refine fnD_of mixed Try.func21 rfl rfl (by simp [Try.ntmps21]) fun hwf E => ?_
  simp (disch := omega) [go_sem] at hwf
  simp (disch := omega) [Try.ntmps21, go_sem]
  refine br_of (fun h1 => ?_) (fun h1 => ?_) <;> simp at h1
  · have e := heardN_eq (wish0 := wish0) (many := many) (need := need) h1
    simp (disch := omega) [go_sem, e]
  · simp (disch := omega) [go_sem]
    refine br_of (fun h2 => ?_) (fun h2 => ?_) <;> simp at h2
    · have h2' : wish = wish0 ∧ 0 < many := ⟨h2.1.symm, h2.2⟩
      simp (disch := omega) [go_sem]
      refine br_of (fun h3 => ?_) (fun h3 => ?_) <;> simp at h3
      · have e := heardN_up (now := now) (need := need) h1 h2' (by omega)
        simp (disch := omega) [go_sem, e]
      · have e := heardN_more (now := now) (need := need) h1 h2' (by omega)
        simp (disch := omega) [go_sem, e, Int.add_comm]
    · have h2' : wish = wish0 → many ≤ 0 := fun h => h2 h.symm
      simp (disch := omega) [go_sem]
      refine br_of (fun h3 => ?_) (fun h3 => ?_) <;> simp at h3
      · simp (disch := omega) [go_sem, heardN_up1 h1 h2' h3]
      · simp (disch := omega) [go_sem, heardN_one h1 h2' h3]

theorem rtally_spec (now wish0 many wish need : Int) : FnD Try.prog 10 [voteV (now, wish0, many), .int .i64 wish, .int .i64 need] (voteE (tallyN now wish0 many wish need)) := by
  unfold voteV
  refine fnD_of mixed Try.func10 rfl rfl (by simp [Try.ntmps10]) fun hwf E => ?_
  simp (disch := omega) [go_sem] at hwf
  simp (disch := omega) [Try.ntmps10, go_sem]
  refine callK_bool (may_spec now wish0 many) [] (by simp [go_sem, voteV]) (fun h1 => ?_) (fun h1 => ?_)
  · simp at h1
    simp (disch := omega) [go_sem]
    refine callK_data (rin_spec wish) [] (by simp [go_sem]) (.inl rfl) (by simp [go_sem]) fun _ => ?_
    simp (disch := omega) [go_sem]
    refine br_of (fun h => ?_) (fun h => ?_)
    · have hb : (!inM now || (!inM wish0 || (!inM many || (!inM wish || !inM need))) || need == 0) = true := by
        simp [inM] at h h1 ⊢; omega
      simp (disch := omega) [go_sem, voteE, voteV, tallyN_bad hb]
    · have hb : (!inM now || (!inM wish0 || (!inM many || (!inM wish || !inM need))) || need == 0) = false := by
        simp [inM] at h h1 ⊢; omega
      have hm : many + 1 ≤ 9223372036854775807 := by simp [inM] at h1; omega
      simp (disch := omega) [go_sem]
      refine callK_data (heard_spec now wish0 many wish need hm) [] (by simp [go_sem, voteV]) (.inl rfl) (by simp [go_sem, voteV]) fun _ => ?_
      simp (disch := omega) [go_sem, voteE, voteV, tallyN_ok hb]
  · have hb : (!inM now || (!inM wish0 || (!inM many || (!inM wish || !inM need))) || need == 0) = true := by
      simp [inM] at h1 ⊢; omega
    simp (disch := omega) [go_sem, voteE, voteV, tallyN_bad hb]

/-! the law -/
theorem law_spec (v : Int × Int × Int) (l : List Int) (need : Int) : FnD Try.prog 3 [voteV v, .sl 1 (ints l), .int .i64 need] (.bool true) := by
  obtain ⟨now, wish, many⟩ := v
  unfold voteV
  refine fnD_of mixed Try.func3 rfl rfl (by simp [Try.ntmps3]) fun hwf E => ?_
  simp (disch := omega) [go_sem] at hwf
  simp (disch := omega) [Try.ntmps3, go_sem]
  refine awz_loop mixed (fun k : Nat × (Int × Int × Int) => ⟨[(8, .int .i64 k.1), (7, .ptr 3 1 0 0), (3, .ptr 0 1 0 0), (1, .sl 1 (ints l)), (2, .int .i64 need)],
      [(3, ⟨.box, 23, 3, [voteV k.2]⟩), (0, ⟨.box, 23, 3, [voteV k.2]⟩)], 6, [], 56⟩)
    (fun k => k.1 ≤ l.length ∧ k.1 ≤ 100) (fun k => l.length - k.1) (0, now, wish, many) (by simp) ?_ ?_
  · refine Le.mk [(0, some 0), (3, some 3)] [0, 3] rfl ?_ ?_ ?_ <;> simp [go_sem, voteV]
  · rintro ⟨k, now, wish, many⟩ ⟨hk, hk2⟩
    simp at hk hk2
    simp (disch := omega) [go_sem, ints_len]
    refine br_of (fun h => ?_) (fun h => ?_)
    · simp at h
      obtain ⟨h, h'⟩ := h
      have ht := tally_spec now wish many l[k] need
      have hu := rtally_spec now wish many l[k] need
      generalize tallyN now wish many l[k] need = r at ht hu
      obtain ⟨⟨now', wish', many'⟩, e⟩ := r
      simp (disch := omega) [go_sem, ints_len, nth_ints, voteV, h]
      refine callK_data ht [] (by simp [go_sem, voteV]) (.inl rfl) (by simp [go_sem, voteE, voteV]) fun _ => ?_
      simp (disch := omega) [go_sem, voteE, voteV, ints_len, nth_ints, h]
      refine ⟨by kernel_rfl, ?_⟩
      refine callK_data hu [] (by simp [go_sem, voteV]) (.inl rfl) (by simp [go_sem, voteE, voteV]) fun _ => ?_
      simp (disch := omega) [go_sem, voteE, voteV]
      refine ⟨by kernel_rfl, ?_⟩
      refine br_of (fun h2 => ?_) (fun h2 => ?_)
      · simp (disch := omega) [go_sem]
        refine round_of (k + 1, now', wish', many') (by simp; omega) (by simp; omega) (Le.mk [(0, some 0), (3, some 3)] [0, 3] rfl ?_ ?_ ?_) <;> simp [go_sem, voteV]
      · simp (disch := omega) [go_sem]
        refine round_of (k + 1, now, wish, many) (by simp; omega) (by simp; omega) (Le.mk [(0, some 0), (3, some 3)] [0, 3] rfl ?_ ?_ ?_) <;> simp [go_sem, voteV]
    · simp (disch := omega) [go_sem]
end Go.Proofs.Ytnikgmdpnlfbiaa
