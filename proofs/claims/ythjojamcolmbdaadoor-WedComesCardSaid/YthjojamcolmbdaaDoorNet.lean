/- The layer net: what its values are; slices.Contains; times. -/
import Derived.Test.YthjojamcolmbdaaDoorSite13
namespace Go.Proofs.YthjojamcolmbdaaDoor
open Go.AM Go.RowKit
set_option maxRecDepth 100000

structure SubN where
  sites : List Int
  critical : Int
structure WedN where
  a : Int
  b : Int
  votes : Int
  offsets : List Int
structure NetN where
  sites : List Sit
  subs : List SubN
  weds : List WedN
  low : Int
  high : Int
  step : Int
def subV (u : SubN) : V := .agg [.sl 1 (ints u.sites), .int .i64 u.critical]
def wedV (w : WedN) : V := .agg [.int .i64 w.a, .int .i64 w.b, .int .i64 w.votes, .sl 1 (ints w.offsets)]
def netV (n : NetN) : V := .agg [.sl 12 (n.sites.map sitV), .sl 2 (n.subs.map subV), .sl 4 (n.weds.map wedV), .int .i64 n.low, .int .i64 n.high, .int .i64 n.step]
theorem sits_pure (l : List Sit) : pures (l.map sitV) := pures_map _ sit_pure l
theorem subs_pure (l : List SubN) : pures (l.map subV) := pures_map _ (fun u => by simp [subV, go_sem, ints_pure]) l
theorem weds_pure (l : List WedN) : pures (l.map wedV) := pures_map _ (fun u => by simp [wedV, go_sem, ints_pure]) l
theorem net_pure (n : NetN) : (netV n).pure := by simp [netV, go_sem, sits_pure, subs_pure, weds_pure]

theorem nin_spec (x a b : Int) : FnD Tryd.prog 139 [.int .i64 x, .int .i64 a, .int .i64 b] (.bool (inN x a b)) := by
  refine fnD_of mixed Tryd.func139 rfl rfl (by simp [Tryd.ntmps139]) fun hwf E => ?_
  simp (disch := omega) [Tryd.ntmps139, go_sem]
  rfl

/-- The first place at which a number stands; -1: none. -/
def placeN (l : List Int) (x : Int) : Int := match l.findIdx? (· == x) with | some i => i | none => -1
theorem place_yes {l : List Int} {x : Int} {k : Nat} (h : k < l.length) (hno : ∀ j (hj : j < l.length), j < k → l[j] ≠ x) (hk : l[k] = x) : placeN l x = k := by
  have : l.findIdx? (· == x) = some k := by
    rw [List.findIdx?_eq_some_iff_getElem]
    exact ⟨h, by simpa using hk, fun j hj => by simpa using hno j (by omega) hj⟩
  simp [placeN, this]
theorem place_no {l : List Int} {x : Int} (hno : ∀ j (hj : j < l.length), l[j] ≠ x) : placeN l x = -1 := by
  have : l.findIdx? (· == x) = none := by
    rw [List.findIdx?_eq_none_iff]
    intro y hy
    obtain ⟨j, hj, rfl⟩ := List.getElem_of_mem hy
    simpa using hno j hj
  simp [placeN, this]
theorem place_has {l : List Int} {x : Int} : decide (placeN l x ≥ 0) = decide (x ∈ l) := by
  by_cases h : x ∈ l
  · obtain ⟨j, hj, e⟩ := List.getElem_of_mem h
    unfold placeN
    cases hf : l.findIdx? (· == x) with
    | none =>
      have := List.findIdx?_eq_none_iff.1 hf x h
      simp at this
    | some i => simp [h]
  · have : placeN l x = -1 := place_no fun j hj e => h (e ▸ List.getElem_mem hj)
    simp [this, h]

theorem index_spec (l : List Int) (x : Int) : FnD Tryd.prog 137 [.sl 1 (ints l), .int .i64 x] (.int .i64 (placeN l x)) := by
  refine fnD_of mixed Tryd.func137 rfl rfl (by simp [Tryd.ntmps137]) fun hwf E => ?_
  simp (disch := omega) [go_sem, ints_len] at hwf
  simp (disch := omega) [Tryd.ntmps137, go_sem, ints_len]
  refine awz_loop mixed (fun k : Nat => ⟨[(0, .sl 1 (ints l)), (1, .int .i64 x), (7, .int .i64 l.length), (8, .int .i64 k), (4, .int .i64 0)], [], 1024, [], 19, 0, []⟩)
    (fun k => k ≤ l.length ∧ ∀ j (hj : j < l.length), j < k → l[j] ≠ x) (fun k => l.length - k) 0 (by simp) ?_ ?_
  · refine Le.mk [] [] ⟨rfl, rfl, rfl⟩ ?_ ?_ ?_ <;> simp [go_sem, ints_pure]
  · rintro k ⟨hk, hno⟩
    simp (disch := omega) [go_sem]
    refine br_of (fun h => ?_) (fun h => ?_) <;> simp at h
    · simp (disch := omega) [go_sem, h, ints_len, nth_ints]
      refine br_of (fun h2 => ?_) (fun h2 => ?_) <;> simp at h2
      · simp (disch := omega) [go_sem]
        exact (place_yes h hno h2.symm).symm
      · simp (disch := omega) [go_sem]
        refine round_of (k + 1) ⟨h, fun j hj hk' => ?_⟩ (by omega) (Le.mk [] [] ⟨rfl, rfl, rfl⟩ ?_ ?_ ?_)
        · by_cases e : j = k
          · subst e; exact fun e => h2 e.symm
          · exact hno j hj (by omega)
        all_goals simp (disch := omega) [go_sem, ints_pure]
    · simp (disch := omega) [go_sem]
      exact (place_no fun j hj => hno j hj (by omega)).symm
theorem contains_spec (l : List Int) (x : Int) : FnD Tryd.prog 92 [.sl 1 (ints l), .int .i64 x] (.bool (decide (x ∈ l))) := by
  refine fnD_of mixed Tryd.func92 rfl rfl (by simp [Tryd.ntmps92]) fun hwf E => ?_
  simp (disch := omega) [Tryd.ntmps92, go_sem] at hwf ⊢
  refine callK_data (index_spec l x) [] (by simp [go_sem, ints_pure]) (.inl rfl) (by simp [go_sem]) fun hw => ?_
  simp (disch := omega) [go_sem]
  simpa using place_has

/-- May the cycles of a region be? -/
def TimedOk (n : NetN) : Prop := (1 ≤ n.low ∧ n.low ≤ 1048576) ∧ (n.low ≤ n.high ∧ n.high ≤ 1048576) ∧ (1 ≤ n.step ∧ n.step ≤ 1048576) ∧ (n.high - n.low).tmod n.step = 0 ∧ (n.high - n.low).tdiv n.step ≤ 64
instance (n : NetN) : Decidable (TimedOk n) := by unfold TimedOk; infer_instance
theorem ntimed_spec (n : NetN) : FnD Tryd.prog 100 [netV n] (.bool (decide (TimedOk n))) := by
  have hp1 := sits_pure n.sites
  have hp2 := subs_pure n.subs
  have hp3 := weds_pure n.weds
  unfold netV
  refine fnD_of mixed Tryd.func100 rfl rfl (by simp [Tryd.ntmps100]) fun hwf E => ?_
  simp (disch := omega) [go_sem] at hwf
  simp (disch := omega) [Tryd.ntmps100, go_sem]
  refine callK_bool (nin_spec n.low 1 1048576) [] (by simp [go_sem]) (fun h1 => ?_) (fun h1 => ?_)
  · simp (disch := omega) [go_sem]
    refine callK_bool (nin_spec n.high n.low 1048576) [] (by simp [go_sem]) (fun h2 => ?_) (fun h2 => ?_)
    · simp (disch := omega) [go_sem]
      refine callK_bool (nin_spec n.step 1 1048576) [] (by simp [go_sem]) (fun h3 => ?_) (fun h3 => ?_)
      · rw [inN_iff] at h1 h2 h3
        simp (disch := omega) [go_sem]
        have hq : (n.high - n.low).tdiv n.step = (n.high - n.low) / n.step := Int.tdiv_eq_ediv_of_nonneg (by omega)
        have hq0 : 0 ≤ (n.high - n.low) / n.step := Int.ediv_nonneg (by omega) (by omega)
        have hq1 : (n.high - n.low) / n.step ≤ n.high - n.low := Int.ediv_le_self _ (by omega)
        rw [i64_wrap (by omega) (by omega)]
        refine ⟨by omega, fun _ => by omega, ?_⟩
        rw [Bool.eq_iff_iff, decide_eq_true_iff (p := TimedOk n)]
        simp only [Bool.and_eq_true, decide_eq_true_eq]
        exact ⟨fun h => ⟨h1, h2, h3, h⟩, fun h => h.2.2.2⟩
      · simp (disch := omega) [go_sem]
        intro hA
        rw [inN_iff.2 hA.2.2.1] at h3; cases h3
    · simp (disch := omega) [go_sem]
      intro hA
      rw [inN_iff.2 hA.2.1] at h2; cases h2
  · simp (disch := omega) [go_sem]
    intro hA
    rw [inN_iff.2 hA.1] at h1; cases h1
end Go.Proofs.YthjojamcolmbdaaDoor
