
/- The layer net: Check, Cycles. -/
import Derived.Test.YtdeionjkcmpnpaaGreatDoorSiteB
set_option linter.unusedSimpArgs false
set_option linter.unusedVariables false
namespace Go.Proofs.YtdeionjkcmpnpaaGreatDoor
open Go.AM Go.RowKit
set_option maxRecDepth 100000

/-! The layer net: what its values are; slices.Contains; times. -/
structure SubN where
  sites : List Int
  critical : Int
structure WedN where
  a : Int
  b : Int
  votes : Int
  offsets : List Int
structure NetN where
  sites : List Sit
  subs : List SubN
  weds : List WedN
  low : Int
  high : Int
  step : Int
def subV (u : SubN) : V := .agg [.sl 1 (ints u.sites), .int .i64 u.critical]
def wedV (w : WedN) : V := .agg [.int .i64 w.a, .int .i64 w.b, .int .i64 w.votes, .sl 1 (ints w.offsets)]
def netV (n : NetN) : V := .agg [.sl 12 (n.sites.map sitV), .sl 2 (n.subs.map subV), .sl 4 (n.weds.map wedV), .int .i64 n.low, .int .i64 n.high, .int .i64 n.step]
theorem sits_pure (l : List Sit) : pures (l.map sitV) := pures_map _ sit_pure l
theorem subs_pure (l : List SubN) : pures (l.map subV) := pures_map _ (fun u => by simp [subV, go_sem, ints_pure]) l
theorem weds_pure (l : List WedN) : pures (l.map wedV) := pures_map _ (fun u => by simp [wedV, go_sem, ints_pure]) l
theorem net_pure (n : NetN) : (netV n).pure := by simp [netV, go_sem, sits_pure, subs_pure, weds_pure]

theorem nin_spec (x a b : Int) : FnD Tryz.prog 146 [.int .i64 x, .int .i64 a, .int .i64 b] (.bool (inN x a b)) := by
  refine fnD_of mixed Tryz.func146 rfl rfl (by simp [Tryz.ntmps146]) fun hwf E => ?_
  simp (disch := omega) [Tryz.ntmps146, go_sem]
  rfl

/-- The first place at which a number stands; -1: none. -/
def placeN (l : List Int) (x : Int) : Int := match l.findIdx? (· == x) with | some i => i | none => -1
theorem place_yes {l : List Int} {x : Int} {k : Nat} (h : k < l.length) (hno : ∀ j (hj : j < l.length), j < k → l[j] ≠ x) (hk : l[k] = x) : placeN l x = k := by
  have : l.findIdx? (· == x) = some k := by
    rw [List.findIdx?_eq_some_iff_getElem]
    exact ⟨h, by simpa using hk, fun j hj => by simpa using hno j (by omega) hj⟩
  simp [placeN, this]
theorem place_no {l : List Int} {x : Int} (hno : ∀ j (hj : j < l.length), l[j] ≠ x) : placeN l x = -1 := by
  have : l.findIdx? (· == x) = none := by
    rw [List.findIdx?_eq_none_iff]
    intro y hy
    obtain ⟨j, hj, rfl⟩ := List.getElem_of_mem hy
    simpa using hno j hj
  simp [placeN, this]
theorem place_has {l : List Int} {x : Int} : decide (placeN l x ≥ 0) = decide (x ∈ l) := by
  by_cases h : x ∈ l
  · obtain ⟨j, hj, e⟩ := List.getElem_of_mem h
    unfold placeN
    cases hf : l.findIdx? (· == x) with
    | none =>
      have := List.findIdx?_eq_none_iff.1 hf x h
      simp at this
    | some i => simp [h]
  · have : placeN l x = -1 := place_no fun j hj e => h (e ▸ List.getElem_mem hj)
    simp [this, h]

theorem index_spec (l : List Int) (x : Int) : FnD Tryz.prog 145 [.sl 1 (ints l), .int .i64 x] (.int .i64 (placeN l x)) := by
  refine fnD_of mixed Tryz.func145 rfl rfl (by simp [Tryz.ntmps145]) fun hwf E => ?_
  simp (disch := omega) [go_sem, ints_len] at hwf
  simp (disch := omega) [Tryz.ntmps145, go_sem, ints_len]
  refine awz_loop mixed (fun k : Nat => ⟨[(0, .sl 1 (ints l)), (1, .int .i64 x), (7, .int .i64 l.length), (8, .int .i64 k), (4, .int .i64 0)], [], 1024, [], 19, 0, []⟩)
    (fun k => k ≤ l.length ∧ ∀ j (hj : j < l.length), j < k → l[j] ≠ x) (fun k => l.length - k) 0 (by simp) ?_ ?_
  · refine Le.mk [] [] ⟨rfl, rfl, rfl⟩ ?_ ?_ ?_ <;> simp [go_sem, ints_pure]
  · rintro k ⟨hk, hno⟩
    simp (disch := omega) [go_sem]
    refine br_of (fun h => ?_) (fun h => ?_) <;> simp at h
    · simp (disch := omega) [go_sem, h, ints_len, nth_ints]
      refine br_of (fun h2 => ?_) (fun h2 => ?_) <;> simp at h2
      · simp (disch := omega) [go_sem]
        exact (place_yes h hno h2.symm).symm
      · simp (disch := omega) [go_sem]
        refine round_of (k + 1) ⟨h, fun j hj hk' => ?_⟩ (by omega) (Le.mk [] [] ⟨rfl, rfl, rfl⟩ ?_ ?_ ?_)
        · by_cases e : j = k
          · subst e; exact fun e => h2 e.symm
          · exact hno j hj (by omega)
        all_goals simp (disch := omega) [go_sem, ints_pure]
    · simp (disch := omega) [go_sem]
      exact (place_no fun j hj => hno j hj (by omega)).symm
theorem contains_spec (l : List Int) (x : Int) : FnD Tryz.prog 74 [.sl 1 (ints l), .int .i64 x] (.bool (decide (x ∈ l))) := by
  refine fnD_of mixed Tryz.func74 rfl rfl (by simp [Tryz.ntmps74]) fun hwf E => ?_
  simp (disch := omega) [Tryz.ntmps74, go_sem] at hwf ⊢
  refine callK_data (index_spec l x) [] (by simp [go_sem, ints_pure]) (.inl rfl) (by simp [go_sem]) fun hw => ?_
  simp (disch := omega) [go_sem]
  simpa using place_has

/-- May the cycles of a region be? -/
def TimedOk (n : NetN) : Prop := (1 ≤ n.low ∧ n.low ≤ 1048576) ∧ (n.low ≤ n.high ∧ n.high ≤ 1048576) ∧ (1 ≤ n.step ∧ n.step ≤ 1048576) ∧ (n.high - n.low).tmod n.step = 0 ∧ (n.high - n.low).tdiv n.step ≤ 64
instance (n : NetN) : Decidable (TimedOk n) := by unfold TimedOk; infer_instance
theorem ntimed_spec (n : NetN) : FnD Tryz.prog 76 [netV n] (.bool (decide (TimedOk n))) := by
  have hp1 := sits_pure n.sites
  have hp2 := subs_pure n.subs
  have hp3 := weds_pure n.weds
  unfold netV
  refine fnD_of mixed Tryz.func76 rfl rfl (by simp [Tryz.ntmps76]) fun hwf E => ?_
  simp (disch := omega) [go_sem] at hwf
  simp (disch := omega) [Tryz.ntmps76, go_sem]
  refine callK_bool (nin_spec n.low 1 1048576) [] (by simp [go_sem]) (fun h1 => ?_) (fun h1 => ?_)
  · simp (disch := omega) [go_sem]
    refine callK_bool (nin_spec n.high n.low 1048576) [] (by simp [go_sem]) (fun h2 => ?_) (fun h2 => ?_)
    · simp (disch := omega) [go_sem]
      refine callK_bool (nin_spec n.step 1 1048576) [] (by simp [go_sem]) (fun h3 => ?_) (fun h3 => ?_)
      · rw [inN_iff] at h1 h2 h3
        simp (disch := omega) [go_sem]
        have hq : (n.high - n.low).tdiv n.step = (n.high - n.low) / n.step := Int.tdiv_eq_ediv_of_nonneg (by omega)
        have hq0 : 0 ≤ (n.high - n.low) / n.step := Int.ediv_nonneg (by omega) (by omega)
        have hq1 : (n.high - n.low) / n.step ≤ n.high - n.low := Int.ediv_le_self _ (by omega)
        rw [i64_wrap (by omega) (by omega)]
        refine ⟨by omega, fun _ => by omega, ?_⟩
        rw [Bool.eq_iff_iff, decide_eq_true_iff (p := TimedOk n)]
        simp only [Bool.and_eq_true, decide_eq_true_eq]
        exact ⟨fun h => ⟨h1, h2, h3, h⟩, fun h => h.2.2.2⟩
      · simp (disch := omega) [go_sem]
        intro hA
        rw [inN_iff.2 hA.2.2.1] at h3; cases h3
    · simp (disch := omega) [go_sem]
      intro hA
      rw [inN_iff.2 hA.2.1] at h2; cases h2
  · simp (disch := omega) [go_sem]
    intro hA
    rw [inN_iff.2 hA.1] at h1; cases h1

/-! The layer net: sites. -/
/-! sets of numbers, as maps -/
def marks (l : List Int) : List V := l.map fun i => .tup [.int .i64 i, .bool true]
theorem marks_pure (l : List Int) : pures (marks l) := pures_map _ (fun u => by simp [go_sem]) l
theorem marks_len (l : List Int) : (marks l).length = l.length := by simp [marks]
def markV (b : Bool) : Option V := if b then some (.bool true) else none
theorem markV_get (b : Bool) : (markV b).getD (.bool false) = .bool b := by cases b <;> rfl
theorem mfind_marks (x : Int) : ∀ (l : List Int), mfind (.int .i64 x) (marks l) = some (markV (decide (x ∈ l)))
  | [] => by simp [marks, mfind, markV]
  | y :: l => by
    have ih := mfind_marks x l
    unfold marks at ih ⊢
    simp only [List.map_cons, mfind, keyB, if_true]
    by_cases h : x = y
    · subst h; simp [markV]
    · have hb : (x == y) = false := by simpa using h
      simp only [hb, ih]
      simp [h]
theorem mput_marks (x : Int) : ∀ (l : List Int), x ∉ l → mput (.int .i64 x) (.bool true) (marks l) = some (marks (l ++ [x]))
  | [], _ => by simp [marks, mput]
  | y :: l, h => by
    simp only [List.mem_cons, not_or] at h
    have ih := mput_marks x l h.2
    unfold marks at ih ⊢
    simp only [List.map_cons, List.cons_append, mput, keyB, if_true]
    have hb : (x == y) = false := by simpa using h.1
    simp only [hb, ih]
    simp

/-! sites -/
def sitedAt (n : NetN) (s : Sit) : Prop := SiteOk s ∧ s.low ≤ n.low ∧ n.high ≤ s.high
def idsN (n : NetN) (k : Nat) : List Int := (n.sites.take k).map Sit.id
theorem idsN_succ {n : NetN} {k : Nat} (h : k < n.sites.length) : idsN n (k + 1) = idsN n k ++ [n.sites[k].id] := by
  unfold idsN
  rw [List.take_succ_eq_append_getElem h, List.map_append]; rfl
theorem idsN_len {n : NetN} {k : Nat} (h : k ≤ n.sites.length) : (idsN n k).length = k := by unfold idsN; rw [List.length_map, List.length_take]; omega
def SitedOk (n : NetN) : Prop := (1 ≤ n.sites.length ∧ n.sites.length ≤ 12) ∧ (idsN n n.sites.length).Nodup ∧ ∀ s ∈ n.sites, sitedAt n s
noncomputable instance (n : NetN) : Decidable (SitedOk n) := Classical.propDecidable _

def sitedInv (n : NetN) (k : Nat) : Prop := k ≤ n.sites.length ∧ (idsN n k).Nodup ∧ ∀ j (h : j < n.sites.length), j < k → sitedAt n n.sites[j]

set_option maxHeartbeats 1000000 in
theorem sited_spec (n : NetN) : FnD Tryz.prog 77 [netV n] (.bool (decide (SitedOk n))) tabG := by
  have hp1 := sits_pure n.sites
  have hp2 := subs_pure n.subs
  have hp3 := weds_pure n.weds
  unfold netV
  refine fnD_of mixed Tryz.func77 rfl rfl (by simp [Tryz.ntmps77]) fun hwf E => ?_
  simp (disch := omega) [go_sem] at hwf
  simp (disch := omega) [Tryz.ntmps77, go_sem]
  refine awz_loop mixed (fun k : Nat => ⟨[(10, .int .i64 k), (9, .int .i64 n.sites.length), (8, .sl 12 (n.sites.map sitV)), (3, .mp 32), (1, .ptr 0 1 0 0), (2, .bool false)], [(32, ⟨.map, 206, 1, marks (idsN n k)⟩), (0, ⟨.box, 26, 6, [netV n]⟩)], 1024, [], 45, 0, tabG⟩)
    (sitedInv n) (fun k => n.sites.length - k) 0 ⟨by omega, by simp [idsN], fun j h hj => by omega⟩ ?_ ?_
  · refine Le.mk [(0, some 0), (32, some 32)] [0, 32] ⟨rfl, rfl, rfl⟩ ?_ ?_ ?_ <;> simp [go_sem, netV, hp1, hp2, hp3, idsN, marks]
  · rintro k ⟨hk, hnd, hno⟩
    simp (disch := omega) [go_sem, netV]
    refine br_of (fun h => ?_) (fun h => ?_) <;> simp at h
    · have he : nth (n.sites.map sitV) k = sitV n.sites[k] := nth_map h
      simp (disch := omega) [go_sem, h, he, mfind_marks, markV_get, sitV]
      have hc := check_spec n.sites[k]
      have bad : ¬ sitedAt n n.sites[k] → SitedOk n → False := fun hb hA => hb (hA.2.2 _ (List.getElem_mem h))
      refine gbr_of (fun h1 => ?_) (fun h1 => ?_) <;> simp at h1
      · simp (disch := omega) [go_sem, h1]
        refine callK_data hc [] (by simp [go_sem, sitV, grps_pure, phas_pure, eyes_pure, plns_pure, sets_pure, rows_pure]) (.inl rfl) (by simp [go_sem]) (fun _ => ?_) (by simp [tabG, go_sem])
        by_cases hOk : SiteOk n.sites[k]
        · rw [checkN_ok hOk]
          simp (disch := omega) [go_sem]
          refine br_of (fun h2 => ?_) (fun h2 => ?_) <;> simp at h2
          · simp (disch := omega) [go_sem]
            exact bad (fun hb => by have := hb.2; omega)
          · have hm := mput_marks _ _ h1
            simp (disch := omega) [go_sem, hm, marks_len, idsN_len hk]
            have e := idsN_succ h
            refine ⟨by omega, ?_⟩
            refine round_of (k + 1) ⟨by omega, ?_, fun j hj hjk => ?_⟩ (by omega) (Le.mk [(0, some 0), (32, some 32)] [0, 32] ⟨rfl, rfl, rfl⟩ ?_ ?_ ?_)
            · rw [e, List.nodup_append]
              refine ⟨hnd, by simp, fun a ha b hb => ?_⟩
              simp only [List.mem_singleton] at hb
              subst hb
              exact fun e => h1 (e ▸ ha)
            · by_cases e2 : j = k
              · subst e2; exact ⟨hOk, by omega⟩
              · exact hno j hj (by omega)
            all_goals simp [go_sem, netV, hp1, hp2, hp3, e, marks_pure]
        · rw [checkN_bad hOk]
          simp (disch := omega) [go_sem]
          exact bad (fun hb => hOk hb.1)
      · simp (disch := omega) [go_sem, h1]
        intro hA
        have hA2 := hA.2.1
        have e : (idsN n (k + 1)).Nodup := by
          have : idsN n (k + 1) = (idsN n n.sites.length).take (k + 1) := by
            unfold idsN
            rw [← List.map_take, List.take_take, Nat.min_eq_left (by omega)]
          rw [this]
          exact hA2.sublist (List.take_sublist _ _)
        rw [idsN_succ h, List.nodup_append] at e
        exact e.2.2 _ h1 _ (by simp) rfl
    · have hkl : k = n.sites.length := by omega
      subst hkl
      simp (disch := omega) [go_sem]
      refine callK_data (nin_spec n.sites.length 1 12) [] (by simp [go_sem]) (.inl rfl) (by simp [go_sem]) (fun _ => ?_)
      simp (disch := omega) [go_sem]
      rw [Bool.eq_iff_iff, decide_eq_true_iff (p := SitedOk n), inN_iff]
      refine ⟨fun hc => ⟨by omega, hnd, fun s hs => ?_⟩, fun hc => by have := hc.1; omega⟩
      obtain ⟨j, hj, rfl⟩ := List.getElem_of_mem hs
      exact hno j hj hj

/-! The layer net: subs. -/
theorem wfs_mem {α : Type} {f : α → V} : ∀ {l : List α}, wfs (l.map f) → ∀ x ∈ l, (f x).wf
  | y :: l, h, x, hx => by
    simp only [List.map_cons, wfs] at h
    rcases List.mem_cons.1 hx with rfl | hx
    · exact h.1
    · exact wfs_mem h.2 x hx
theorem nodup_len : ∀ (N : Nat) (l : List Int), l.Nodup → (∀ x ∈ l, 0 ≤ x ∧ x < N) → l.length ≤ N
  | 0, [], _, _ => by simp
  | 0, x :: l, _, h => by have := h x (by simp); omega
  | N + 1, l, hn, h => by
    have e : (l.erase (N : Int)).length ≤ N := nodup_len N _ (hn.erase _) fun x hx => by
      have h1 := (List.Nodup.mem_erase_iff hn).1 hx
      have h2 := h x h1.2
      have h3 := h1.1
      omega
    by_cases hm : (N : Int) ∈ l
    · rw [List.length_erase_of_mem hm] at e; omega
    · rw [List.erase_of_not_mem hm] at e; omega

def seenK (n : NetN) (k : Nat) : List Int := (n.subs.take k).flatMap SubN.sites
theorem seenK_succ {n : NetN} {k : Nat} (h : k < n.subs.length) : seenK n (k + 1) = seenK n k ++ n.subs[k].sites := by
  unfold seenK
  rw [List.take_succ_eq_append_getElem h, List.flatMap_append]; simp
def seenKM (n : NetN) (u : SubN) (k m : Nat) : List Int := seenK n k ++ u.sites.take m
theorem seenKM_succ {n : NetN} {u : SubN} {k m : Nat} (h : m < u.sites.length) : seenKM n u k (m + 1) = seenKM n u k m ++ [u.sites[m]] := by
  unfold seenKM
  rw [List.take_succ_eq_append_getElem h, List.append_assoc]
def rangeOk (n : NetN) (l : List Int) : Prop := ∀ x ∈ l, 0 ≤ x ∧ x < n.sites.length
def seenOk (n : NetN) (l : List Int) : Prop := l.Nodup ∧ rangeOk n l
def SubbedOk (n : NetN) : Prop := (1 ≤ n.subs.length ∧ n.subs.length ≤ 6) ∧ seenOk n (seenK n n.subs.length) ∧ (∀ u ∈ n.subs, u.critical ∈ u.sites) ∧ (seenK n n.subs.length).length = n.sites.length
noncomputable instance (n : NetN) : Decidable (SubbedOk n) := Classical.propDecidable _
theorem seenOk_prefix {n : NetN} {l r : List Int} (h : seenOk n (l ++ r)) : seenOk n l :=
  ⟨(List.nodup_append.1 h.1).1, fun x hx => h.2 x (by simp [hx])⟩
theorem seenK_pre (n : NetN) (k : Nat) (u : SubN) (hk : k < n.subs.length) (hu : n.subs[k] = u) (m : Nat) : ∃ r, seenK n n.subs.length = seenKM n u k m ++ r := by
  subst hu
  refine ⟨n.subs[k].sites.drop m ++ (n.subs.drop (k + 1)).flatMap SubN.sites, ?_⟩
  have e : n.subs.take n.subs.length = n.subs.take k ++ n.subs[k] :: n.subs.drop (k + 1) := by
    rw [List.take_length]
    conv => lhs; rw [← List.take_append_drop k n.subs, List.drop_eq_getElem_cons hk]
  unfold seenK seenKM
  rw [e, List.flatMap_append, List.flatMap_cons]
  unfold seenK
  rw [List.append_assoc, ← List.append_assoc (n.subs[k].sites.take m), List.take_append_drop]

def subInv (n : NetN) (k : Nat) : Prop := k ≤ n.subs.length ∧ seenOk n (seenK n k) ∧ ∀ j (h : j < n.subs.length), j < k → n.subs[j].critical ∈ n.subs[j].sites

set_option maxHeartbeats 2000000 in
theorem subbed_spec (n : NetN) : FnD Tryz.prog 78 [netV n] (.bool (decide (SubbedOk n))) := by
  have hp1 := sits_pure n.sites
  have hp2 := subs_pure n.subs
  have hp3 := weds_pure n.weds
  unfold netV
  refine fnD_of mixed Tryz.func78 rfl rfl (by simp [Tryz.ntmps78]) fun hwf E => ?_
  simp (disch := omega) [go_sem] at hwf
  simp (disch := omega) [Tryz.ntmps78, go_sem]
  refine awz_loop mixed (fun k : Nat => ⟨[(12, .int .i64 k), (11, .int .i64 n.subs.length), (10, .sl 2 (n.subs.map subV)), (3, .mp 32), (1, .ptr 0 1 0 0), (2, .bool false)], [(32, ⟨.map, 206, 1, marks (seenK n k)⟩), (0, ⟨.box, 26, 6, [netV n]⟩)], 1024, [], 57, 0, []⟩)
    (subInv n) (fun k => n.subs.length - k) 0 ⟨by omega, by simp [seenK, seenOk, rangeOk], fun j h hj => by omega⟩ ?_ ?_
  · refine Le.mk [(0, some 0), (32, some 32)] [0, 32] ⟨rfl, rfl, rfl⟩ ?_ ?_ ?_ <;> simp [go_sem, netV, hp1, hp2, hp3, seenK, marks]
  · rintro k ⟨hk, hs, hno⟩
    simp (disch := omega) [go_sem, netV]
    refine br_of (fun h => ?_) (fun h => ?_) <;> simp at h
    · have he : nth (n.subs.map subV) k = subV n.subs[k] := nth_map h
      have hnok := fun j hj hjk => hno j hj hjk
      have hcrit : n.subs[k].critical ∈ n.subs[k].sites ∨ ¬ n.subs[k].critical ∈ n.subs[k].sites := Classical.em _
      have hpre := seenK_pre n k n.subs[k] h rfl
      have hsucc := seenK_succ h
      have hmem : n.subs[k] ∈ n.subs := List.getElem_mem h
      have hull : n.subs[k].sites.length ≤ 140737488355328 := by
        have := wfs_mem hwf.2.1.2 _ hmem
        simp [subV, go_sem, ints_len] at this
        omega
      simp (disch := omega) [go_sem, h, he, subV, ints_len]
      generalize hu : n.subs[k] = u at *
      have hp4 := ints_pure u.sites
      refine awz_loop mixed (fun m : Nat => ⟨[(19, .int .i64 m), (18, .int .i64 u.sites.length), (17, .sl 1 (ints u.sites)), (5, .ptr 512 1 0 0), (12, .int .i64 k), (11, .int .i64 n.subs.length), (10, .sl 2 (n.subs.map subV)), (3, .mp 32), (1, .ptr 0 1 0 0), (2, .bool false)], [(512, ⟨.box, 95, 2, [subV u]⟩), (32, ⟨.map, 206, 1, marks (seenKM n u k m)⟩), (0, ⟨.box, 26, 6, [netV n]⟩)], 2048, [], 57, 0, []⟩)
        (fun m => m ≤ u.sites.length ∧ seenOk n (seenKM n u k m)) (fun m => u.sites.length - m) 0 ⟨by omega, by simpa [seenKM] using hs⟩ ?_ ?_
      · refine Le.mk [(0, some 0), (32, some 32), (512, some 1072)] [0, 32, 1072] ⟨rfl, rfl, rfl⟩ ?_ ?_ ?_ <;> simp [go_sem, netV, subV, hp1, hp2, hp3, hp4, seenKM, marks_pure]
      · rintro m ⟨hm, hsm⟩
        simp (disch := omega) [go_sem, netV, subV]
        refine br_of (fun h2 => ?_) (fun h2 => ?_) <;> simp at h2
        · simp (disch := omega) [go_sem, h2, nth_ints, ints_len, netV, subV]
          refine callK_bool (nin_spec u.sites[m] 0 ((n.sites.length : Int) - 1)) [] (by simp [go_sem]) (fun h3 => ?_) (fun h3 => ?_)
          · simp (disch := omega) [go_sem, mfind_marks, markV_get]
            refine br_of (fun h4 => ?_) (fun h4 => ?_) <;> simp at h4
            · simp (disch := omega) [go_sem]
              intro hA
              obtain ⟨r, hr⟩ := hpre (m + 1)
              have hx := hA.2.1
              rw [hr] at hx
              have hx2 := (seenOk_prefix hx).1
              rw [seenKM_succ h2, List.nodup_append] at hx2
              exact hx2.2.2 _ h4 _ (by simp) rfl
            · have hm2 := mput_marks _ _ h4
              have e := seenKM_succ (n := n) (k := k) h2
              rw [inN_iff] at h3
              have hsm2 : seenOk n (seenKM n u k (m + 1)) := by
                rw [e]
                refine ⟨?_, fun x hx => ?_⟩
                · rw [List.nodup_append]
                  refine ⟨hsm.1, by simp, fun a ha b hb => ?_⟩
                  simp only [List.mem_singleton] at hb
                  subst hb
                  exact fun e => h4 (e ▸ ha)
                · rcases List.mem_append.1 hx with hx | hx
                  · exact hsm.2 x hx
                  · simp only [List.mem_singleton] at hx
                    subst hx; omega
              have hl := nodup_len _ _ hsm2.1 hsm2.2
              rw [e, List.length_append] at hl
              simp only [List.length_cons, List.length_nil] at hl
              simp (disch := omega) [go_sem, hm2, marks_len]
              refine ⟨by omega, ?_⟩
              refine round_of (m + 1) ⟨by omega, ?_⟩ (by omega) (Le.mk [(0, some 0), (32, some 32), (512, some 512)] [0, 32, 512] ⟨rfl, rfl, rfl⟩ ?_ ?_ ?_)
              · exact hsm2
              all_goals simp [go_sem, netV, subV, hp1, hp2, hp3, hp4, e, marks_pure]
          · simp (disch := omega) [go_sem]
            intro hA
            obtain ⟨r, hr⟩ := hpre (m + 1)
            have hx := hA.2.1
            rw [hr] at hx
            have hx2 := (seenOk_prefix hx).2 u.sites[m] (by rw [seenKM_succ h2]; simp)
            rw [inN_iff.2 ⟨hx2.1, by omega⟩] at h3
            cases h3
        · have hml : m = u.sites.length := by omega
          subst hml
          simp (disch := omega) [go_sem, netV, subV]
          refine callK_bool (contains_spec u.sites u.critical) [] (by simp [go_sem, ints_pure]) (fun h3 => ?_) (fun h3 => ?_)
          · simp (disch := omega) [go_sem]
            refine round_of (k + 1) ⟨by omega, ?_, fun j hj hjk => ?_⟩ (by omega) (Le.mk [(0, some 0), (32, some 32)] [0, 32] ⟨rfl, rfl, rfl⟩ ?_ ?_ ?_)
            · rw [hsucc]
              simpa [seenKM] using hsm
            · by_cases e2 : j = k
              · subst e2; rw [hu]; simpa using h3
              · exact hno j hj (by omega)
            all_goals simp [go_sem, netV, hp1, hp2, hp3, hsucc, marks_pure, seenKM]
          · simp (disch := omega) [go_sem]
            intro hA
            have := hA.2.2.1 u hmem
            simp [this] at h3
    · have hkl : k = n.subs.length := by omega
      subst hkl
      simp (disch := omega) [go_sem]
      refine callK_bool (nin_spec n.subs.length 1 6) [] (by simp [go_sem]) (fun h1 => ?_) (fun h1 => ?_)
      · simp (disch := omega) [go_sem, marks_len]
        rw [inN_iff] at h1
        rw [Bool.eq_iff_iff, decide_eq_true_iff (p := SubbedOk n)]
        simp only [beq_iff_eq]
        refine ⟨fun hc => ⟨by omega, hs, fun u hu => ?_, by omega⟩, fun hc => by have := hc.2.2.2; omega⟩
        obtain ⟨j, hj, rfl⟩ := List.getElem_of_mem hu
        exact hno j hj hj
      · simp (disch := omega) [go_sem]
        intro hA
        rw [inN_iff.2 (by have := hA.1; omega)] at h1
        cases h1

/-! The layer net: weds. -/
def findQ (l : List Int) (q : Int → Bool) : Int := match l.findIdx? q with | some i => i | none => -1
theorem indexFunc_ints (l : List Int) (g : FuncId) (fst caps : List V) (q : Int → Bool) (hpf : pures fst) (hpc : pures caps) (hq : ∀ x ∈ l, FnD Tryz.prog g (fst ++ [.int .i64 x] ++ caps) (.bool (q x))) :
    FnD Tryz.prog 194 [.sl 1 (ints l), .func (.func g) fst caps] (.int .i64 (findQ l q)) := by
  have yes : ∀ k (h : k < l.length), (∀ j (hj : j < l.length), j < k → q l[j] = false) → q l[k] = true → (findQ l q) = k := by
    intro k h hno hk
    have : l.findIdx? q = some k := by
      rw [List.findIdx?_eq_some_iff_getElem]
      exact ⟨h, hk, fun j hj => by simp [hno j (by omega) hj]⟩
    simp [findQ, this]
  have no : (∀ j (hj : j < l.length), q l[j] = false) → (findQ l q) = -1 := by
    intro hno
    have : l.findIdx? q = none := by
      rw [List.findIdx?_eq_none_iff]
      intro x hx
      obtain ⟨j, hj, rfl⟩ := List.getElem_of_mem hx
      exact hno j hj
    simp [findQ, this]
  generalize (findQ l q) = res at *
  refine fnD_of mixed Tryz.func194 rfl rfl (by simp [Tryz.ntmps194]) fun hwf E => ?_
  simp (disch := omega) [go_sem, ints_len] at hwf
  simp (disch := omega) [Tryz.ntmps194, go_sem, ints_len]
  refine awz_loop mixed (fun k : Nat => ⟨[(0, .sl 1 (ints l)), (1, .func (.func g) fst caps), (7, .int .i64 l.length), (8, .int .i64 k), (4, .int .i64 0)], [], 1024, [], 19, 0, []⟩)
    (fun k => k ≤ l.length ∧ ∀ j (hj : j < l.length), j < k → q l[j] = false) (fun k => l.length - k) 0 (by simp) ?_ ?_
  · refine Le.mk [] [] ⟨rfl, rfl, rfl⟩ ?_ ?_ ?_ <;> simp [go_sem, vsLe_self, hpf, hpc, ints_pure]
  · rintro k ⟨hk, hno⟩
    simp (disch := omega) [go_sem]
    refine br_of (fun h => ?_) (fun h => ?_) <;> simp at h
    · have hm : l[k] ∈ l := List.getElem_mem h
      simp (disch := omega) [go_sem, h, ints_len, nth_ints]
      refine callK_data (hq _ hm) [] ?_ (.inl rfl) (by simp [go_sem]) fun hw => ?_
      · simp (disch := omega) [go_sem]
        have ha := argsLe_self (hp := AM.look []) (B := fun i => i ∈ ([] : List Nat)) (n := 8) (xs := fst ++ [.int .i64 l[k]] ++ caps) (by simp [go_sem, hpf, hpc])
        simpa [AM.look] using ha
      · simp (disch := omega) [go_sem]
        refine br_of (fun h2 => ?_) (fun h2 => ?_)
        · simp (disch := omega) [go_sem]
          exact (yes k h hno h2).symm
        · simp (disch := omega) [go_sem]
          refine round_of (k + 1) ⟨h, fun j hj hk' => ?_⟩ (by omega) (Le.mk [] [] ⟨rfl, rfl, rfl⟩ ?_ ?_ ?_)
          · by_cases e : j = k
            · subst e; exact h2
            · exact hno j hj (by omega)
          all_goals simp (disch := omega) [go_sem, vsLe_self, hpf, hpc, ints_pure]
    · simp (disch := omega) [go_sem]
      exact (no fun j hj => hno j hj (by omega)).symm
theorem find_any (l : List Int) (q : Int → Bool) : decide ((findQ l q) ≥ 0) = l.any q := by
  unfold findQ
  cases h : l.findIdx? q with
  | none =>
    have := List.findIdx?_eq_none_iff.1 h
    have : l.any q = false := by simpa using this
    simp [this]
  | some i =>
    obtain ⟨hi, hp, _⟩ := List.findIdx?_eq_some_iff_getElem.1 h
    have : l.any q = true := List.any_eq_true.2 ⟨_, List.getElem_mem hi, hp⟩
    simp [this]
theorem containsFunc_ints (l : List Int) (g : FuncId) (fst caps : List V) (q : Int → Bool) (hpf : pures fst) (hpc : pures caps) (hq : ∀ x ∈ l, FnD Tryz.prog g (fst ++ [.int .i64 x] ++ caps) (.bool (q x))) :
    FnD Tryz.prog 147 [.sl 1 (ints l), .func (.func g) fst caps] (.bool (l.any q)) := by
  refine fnD_of mixed Tryz.func147 rfl rfl (by simp [Tryz.ntmps147]) fun hwf E => ?_
  simp (disch := omega) [Tryz.ntmps147, go_sem] at hwf ⊢
  refine callK_data (indexFunc_ints l g fst caps q hpf hpc hq) [] ?_ (.inl rfl) (by simp [go_sem]) fun hw => ?_
  · simp [go_sem, hpf, hpc, ints_pure]
  · simp (disch := omega) [go_sem]
    simpa using find_any l q

theorem wedded1_spec (n : NetN) (x : Int) (hl : 1 ≤ n.low ∧ n.low ≤ 1048576) : FnD Tryz.prog 148 [.int .i64 x, .tptr 6 [netV n] 0 0] (.bool (!inN x 0 (n.low - 1))) := by
  unfold netV
  refine fnD_of mixed Tryz.func148 rfl rfl (by simp [Tryz.ntmps148]) fun hwf E => ?_
  simp (disch := omega) [Tryz.ntmps148, go_sem]
  refine callK_bool (nin_spec x 0 (n.low - 1)) [] (by simp [go_sem]) (fun h1 => ?_) (fun h1 => ?_) <;> simp (disch := omega) [go_sem, h1]

/-! sets of pairs -/
def marks2 (l : List (Int × Int)) : List V := l.map fun p => .tup [.agg [.int .i64 p.1, .int .i64 p.2], .bool true]
theorem marks2_len (l : List (Int × Int)) : (marks2 l).length = l.length := by simp [marks2]
theorem marks2_pure (l : List (Int × Int)) : pures (marks2 l) := pures_map _ (fun u => by simp [go_sem]) l
theorem mfind_marks2 (a b : Int) : ∀ (l : List (Int × Int)), mfind (.agg [.int .i64 a, .int .i64 b]) (marks2 l) = some (markV (decide ((a, b) ∈ l)))
  | [] => by simp [marks2, mfind, markV]
  | y :: l => by
    have ih := mfind_marks2 a b l
    unfold marks2 at ih ⊢
    simp only [List.map_cons, mfind, keyB, and_self, if_true]
    by_cases h : (a, b) = y
    · subst h; simp [markV]
    · have hb : (a == y.1 && b == y.2) = false := by
        obtain ⟨c, d⟩ := y
        simp only [Prod.mk.injEq] at h
        rw [Bool.and_eq_false_iff]
        by_cases e : a = c
        · right; simpa using fun e2 => h ⟨e, e2⟩
        · left; simpa using e
      simp only [hb, ih]
      simp [h]
theorem mput_marks2 (a b : Int) : ∀ (l : List (Int × Int)), (a, b) ∉ l → mput (.agg [.int .i64 a, .int .i64 b]) (.bool true) (marks2 l) = some (marks2 (l ++ [(a, b)]))
  | [], _ => by simp [marks2, mput]
  | y :: l, h => by
    simp only [List.mem_cons, not_or] at h
    have ih := mput_marks2 a b l h.2
    unfold marks2 at ih ⊢
    simp only [List.map_cons, List.cons_append, mput, keyB, and_self, if_true]
    have hb : (a == y.1 && b == y.2) = false := by
      obtain ⟨c, d⟩ := y
      have h1 := h.1
      simp only [Prod.mk.injEq] at h1
      rw [Bool.and_eq_false_iff]
      by_cases e : a = c
      · right; simpa using fun e2 => h1 ⟨e, e2⟩
      · left; simpa using e
    simp only [hb, ih]
    simp

def wedOk (n : NetN) (w : WedN) : Prop := 0 ≤ w.a ∧ w.a < w.b ∧ w.b < n.subs.length ∧ (1 ≤ w.votes ∧ w.votes ≤ 1048576) ∧ (1 ≤ w.offsets.length ∧ w.offsets.length ≤ 8) ∧ ∀ x ∈ w.offsets, 0 ≤ x ∧ x ≤ n.low - 1
def pairsK (n : NetN) (k : Nat) : List (Int × Int) := (n.weds.take k).map fun w => (w.a, w.b)
theorem pairsK_succ {n : NetN} {k : Nat} (h : k < n.weds.length) : pairsK n (k + 1) = pairsK n k ++ [(n.weds[k].a, n.weds[k].b)] := by
  unfold pairsK
  rw [List.take_succ_eq_append_getElem h, List.map_append]; rfl
theorem pairsK_len {n : NetN} {k : Nat} (h : k ≤ n.weds.length) : (pairsK n k).length = k := by unfold pairsK; rw [List.length_map, List.length_take]; omega
theorem pairsK_nodup {n : NetN} {k : Nat} (hA : (pairsK n n.weds.length).Nodup) (hk : k ≤ n.weds.length) : (pairsK n k).Nodup := by
  have : pairsK n k = (pairsK n n.weds.length).take k := by
    unfold pairsK
    rw [← List.map_take, List.take_take, Nat.min_eq_left hk]
  rw [this]
  exact hA.sublist (List.take_sublist _ _)
def WeddedOk (n : NetN) : Prop := n.weds.length ≤ 8 ∧ (pairsK n n.weds.length).Nodup ∧ ∀ w ∈ n.weds, wedOk n w
noncomputable instance (n : NetN) : Decidable (WeddedOk n) := Classical.propDecidable _
def wedInv (n : NetN) (k : Nat) : Prop := k ≤ n.weds.length ∧ (pairsK n k).Nodup ∧ ∀ j (h : j < n.weds.length), j < k → wedOk n n.weds[j]

set_option maxHeartbeats 2000000 in
theorem wedded_spec (n : NetN) (hl : 1 ≤ n.low ∧ n.low ≤ 1048576) : FnD Tryz.prog 79 [netV n] (.bool (decide (WeddedOk n))) := by
  have hp1 := sits_pure n.sites
  have hp2 := subs_pure n.subs
  have hp3 := weds_pure n.weds
  have hw1 := fun x => wedded1_spec n x hl
  have hnv : netV n = .agg [.sl 12 (n.sites.map sitV), .sl 2 (n.subs.map subV), .sl 4 (n.weds.map wedV), .int .i64 n.low, .int .i64 n.high, .int .i64 n.step] := rfl
  rw [hnv] at hw1 ⊢
  refine fnD_of mixed Tryz.func79 rfl rfl (by simp [Tryz.ntmps79]) fun hwf E => ?_
  simp (disch := omega) [go_sem] at hwf
  simp (disch := omega) [Tryz.ntmps79, go_sem]
  refine awz_loop mixed (fun k : Nat => ⟨[(11, .int .i64 k), (10, .int .i64 n.weds.length), (9, .sl 4 (n.weds.map wedV)), (3, .mp 32), (1, .ptr 0 1 0 0), (2, .bool false)], [(32, ⟨.map, 207, 1, marks2 (pairsK n k)⟩), (0, ⟨.box, 26, 6, [netV n]⟩)], 1024, [], 67, 0, []⟩)
    (wedInv n) (fun k => n.weds.length - k) 0 ⟨by omega, by simp [pairsK], fun j h hj => by omega⟩ ?_ ?_
  · refine Le.mk [(0, some 0), (32, some 32)] [0, 32] ⟨rfl, rfl, rfl⟩ ?_ ?_ ?_ <;> simp [go_sem, netV, hp1, hp2, hp3, pairsK, marks2]
  · rintro k ⟨hk, hnd, hno⟩
    simp (disch := omega) [go_sem, netV]
    refine br_of (fun h => ?_) (fun h => ?_) <;> simp at h
    · have he : nth (n.weds.map wedV) k = wedV n.weds[k] := nth_map h
      have hmem : n.weds[k] ∈ n.weds := List.getElem_mem h
      have hsucc := pairsK_succ h
      have hlen := pairsK_len hk
      have hull : n.weds[k].offsets.length ≤ 140737488355328 := by
        have := wfs_mem hwf.2.2.1.2 _ hmem
        simp [wedV, go_sem, ints_len] at this
        omega
      simp (disch := omega) [go_sem, h, he, wedV, ints_len]
      generalize hu : n.weds[k] = u at *
      have badA : ¬ wedOk n u → WeddedOk n → False := fun hb hA => hb (hA.2.2 _ hmem)
      refine gbr_of (fun h1 => ?_) (fun h1 => ?_)
      · simp at h1
        have e1 : decide (u.a < 0) = false := by simp; omega
        have e2 : decide (u.b ≤ u.a) = false := by simp; omega
        have e3 : decide ((n.subs.length : Int) ≤ u.b) = false := by simp; omega
        simp (disch := omega) [go_sem, e1, e2, e3, mfind_marks2, markV_get]
        by_cases h2 : (u.a, u.b) ∈ pairsK n k
        · simp (disch := omega) [go_sem, h2]
          intro hA
          have hx := pairsK_nodup hA.2.1 (show k + 1 ≤ n.weds.length by omega)
          rw [hsucc, List.nodup_append] at hx
          exact hx.2.2 _ h2 _ (by simp) rfl
        · simp (disch := omega) [go_sem, h2]
          refine callK_bool (nin_spec u.votes 1 1048576) [] (by simp [go_sem]) (fun h3 => ?_) (fun h3 => ?_)
          · rw [inN_iff] at h3
            simp (disch := omega) [go_sem, ints_len]
            refine callK_bool (nin_spec u.offsets.length 1 8) [] (by simp [go_sem]) (fun h4 => ?_) (fun h4 => ?_)
            · rw [inN_iff] at h4
              simp (disch := omega) [go_sem, ints_len]
              have hq := containsFunc_ints u.offsets 148 [] [.tptr 6 [netV n] 0 0] (fun x => !inN x 0 (n.low - 1)) (by simp [go_sem]) (by simp [go_sem]) (fun x _ => by simpa [hnv] using hw1 x)
              rw [hnv] at hq
              refine callK_bool hq [0] (by simp [go_sem, ints_pure, hp1, hp2, hp3]) (fun h5 => ?_) (fun h5 => ?_)
              · simp (disch := omega) [go_sem]
                refine badA fun hb => ?_
                simp only [List.any_eq_true] at h5
                obtain ⟨x, hx, h6⟩ := h5
                have := inN_iff.2 (hb.2.2.2.2.2 x hx)
                rw [this] at h6; cases h6
              · have hok : wedOk n u := ⟨by omega, by omega, by omega, h3, by omega, fun x hx => by
                  have := List.any_eq_false.1 h5 x hx
                  simp only [Bool.not_eq_true', Bool.not_eq_false] at this
                  exact inN_iff.1 this⟩
                have hm := mput_marks2 u.a u.b _ h2
                simp (disch := omega) [go_sem, hm, marks2_len, hlen]
                refine ⟨by omega, ?_⟩
                refine round_of (k + 1) ⟨by omega, ?_, fun j hj hjk => ?_⟩ (by omega) (Le.mk [(0, some 0), (32, some 32)] [0, 32] ⟨rfl, rfl, rfl⟩ ?_ ?_ ?_)
                · rw [hsucc, List.nodup_append]
                  refine ⟨hnd, by simp, fun a ha b hb => ?_⟩
                  simp only [List.mem_singleton] at hb
                  subst hb
                  exact fun e => h2 (e ▸ ha)
                · by_cases e2 : j = k
                  · subst e2; rw [hu]; exact hok
                  · exact hno j hj (by omega)
                all_goals simp [go_sem, netV, hp1, hp2, hp3, hsucc, marks2_pure]
            · simp (disch := omega) [go_sem]
              refine badA fun hb => ?_
              rw [inN_iff.2 (by have := hb.2.2.2.2.1; omega)] at h4; cases h4
          · simp (disch := omega) [go_sem]
            refine badA fun hb => ?_
            rw [inN_iff.2 hb.2.2.2.1] at h3; cases h3
      · have ht : (decide (u.a < 0) || decide (u.b ≤ u.a) || decide ((n.subs.length : Int) ≤ u.b)) = true := by
          revert h1
          cases decide (u.a < 0) <;> cases decide (u.b ≤ u.a) <;> cases decide ((n.subs.length : Int) ≤ u.b) <;> simp
        have hcond : ¬ wedOk n u := fun hb => by
          obtain ⟨b1, b2, b3, _⟩ := hb
          simp at ht
          omega
        simp (disch := omega) [go_sem, h1, ht]
        exact badA hcond
    · have hkl : k = n.weds.length := by omega
      subst hkl
      simp (disch := omega) [go_sem]
      refine ⟨fun hc => ⟨by omega, hnd, fun s hs => ?_⟩, fun hc => by have := hc.1; omega⟩
      obtain ⟨j, hj, rfl⟩ := List.getElem_of_mem hs
      exact hno j hj hj

/-! The layer net: Check. -/
def NetOk (n : NetN) : Prop := TimedOk n ∧ SitedOk n ∧ SubbedOk n ∧ WeddedOk n
noncomputable instance (n : NetN) : Decidable (NetOk n) := Classical.propDecidable _
noncomputable def netN (n : NetN) : Int := if NetOk n then 0 else 60
theorem netN_ok {n : NetN} (h : NetOk n) : netN n = 0 := by unfold netN; rw [if_pos h]
theorem netN_bad {n : NetN} (h : ¬ NetOk n) : netN n = 60 := by unfold netN; rw [if_neg h]
def mays : List V := [.func (.func 76) [] [], .func (.func 77) [] [], .func (.func 78) [] [], .func (.func 79) [] []]
def nchk (n : NetN) : Nat → Prop
  | 0 => TimedOk n
  | 1 => SitedOk n
  | 2 => SubbedOk n
  | _ => WeddedOk n

set_option maxHeartbeats 2000000 in
theorem ncheck_spec (n : NetN) : FnD Tryz.prog 34 [netV n] (.int .i64 (netN n)) tabG := by
  have hp1 := sits_pure n.sites
  have hp2 := subs_pure n.subs
  have hp3 := weds_pure n.weds
  have q0 := ntimed_spec n
  have q1 := sited_spec n
  have q2 := subbed_spec n
  have q3 := fun h => wedded_spec n h
  have hnv : netV n = .agg [.sl 12 (n.sites.map sitV), .sl 2 (n.subs.map subV), .sl 4 (n.weds.map wedV), .int .i64 n.low, .int .i64 n.high, .int .i64 n.step] := rfl
  rw [hnv] at q0 q1 q2 q3 ⊢
  refine fnD_of mixed Tryz.func34 rfl rfl (by simp [Tryz.ntmps34]) fun hwf E => ?_
  simp (disch := omega) [go_sem] at hwf
  simp (disch := omega) [Tryz.ntmps34, go_sem]
  have bad : (¬ TimedOk n ∨ ¬ SitedOk n ∨ ¬ SubbedOk n ∨ ¬ WeddedOk n) → netN n = 60 := fun h => netN_bad fun hA => by
    obtain ⟨a, b, c, d⟩ := hA
    rcases h with h | h | h | h <;> exact h (by assumption)
  refine awz_loop mixed (fun k : Nat => ⟨[(7, .int .i64 k), (6, .int .i64 4), (5, .obj 32 4), (1, .ptr 0 1 0 0), (2, .int .i64 0)], [(32, ⟨.arr, 28, 1, mays⟩), (0, ⟨.box, 26, 6, [netV n]⟩)], 1024, [], 16, 0, tabG⟩)
    (fun k => k ≤ 4 ∧ ∀ i, i < k → nchk n i) (fun k => 4 - k) 0 ⟨by omega, fun a ha => by omega⟩ ?_ ?_
  · refine Le.mk [(0, some 0), (32, some 32)] [0, 32] ⟨rfl, rfl, rfl⟩ ?_ ?_ ?_ <;> simp [go_sem, netV, hp1, hp2, hp3, mays]
  · rintro k ⟨hk, hno⟩
    have hcases : k = 0 ∨ k = 1 ∨ k = 2 ∨ k = 3 ∨ k = 4 := by omega
    rcases hcases with rfl | rfl | rfl | rfl | rfl
    · simp (disch := omega) [go_sem, netV, mays]
      refine callK_bool q0 [] (by simp [go_sem, hp1, hp2, hp3]) (fun h1 => ?_) (fun h1 => ?_)
      · simp (disch := omega) [go_sem]
        refine round_of 1 ⟨by omega, fun i hi => ?_⟩ (by omega) (Le.mk [(0, some 0), (32, some 32)] [0, 32] ⟨rfl, rfl, rfl⟩ ?_ ?_ ?_)
        · obtain rfl : i = 0 := by omega
          exact (decide_eq_true_iff.1 h1 :)
        all_goals simp [go_sem, netV, hp1, hp2, hp3, mays]
      · simp (disch := omega) [go_sem]
        exact (bad (.inl (of_decide_eq_false h1))).symm
    · simp (disch := omega) [go_sem, netV, mays]
      refine callK_bool q1 [] (by simp [go_sem, hp1, hp2, hp3]) (fun h1 => ?_) (fun h1 => ?_) (by simp [tabG, go_sem])
      · simp (disch := omega) [go_sem]
        refine round_of 2 ⟨by omega, fun i hi => ?_⟩ (by omega) (Le.mk [(0, some 0), (32, some 32)] [0, 32] ⟨rfl, rfl, rfl⟩ ?_ ?_ ?_)
        · by_cases e : i = 1
          · subst e; exact (decide_eq_true_iff.1 h1 :)
          · exact hno i (by omega)
        all_goals simp [go_sem, netV, hp1, hp2, hp3, mays]
      · simp (disch := omega) [go_sem]
        exact (bad (.inr (.inl (of_decide_eq_false h1)))).symm
    · simp (disch := omega) [go_sem, netV, mays]
      refine callK_bool q2 [] (by simp [go_sem, hp1, hp2, hp3]) (fun h1 => ?_) (fun h1 => ?_)
      · simp (disch := omega) [go_sem]
        refine round_of 3 ⟨by omega, fun i hi => ?_⟩ (by omega) (Le.mk [(0, some 0), (32, some 32)] [0, 32] ⟨rfl, rfl, rfl⟩ ?_ ?_ ?_)
        · by_cases e : i = 2
          · subst e; exact (decide_eq_true_iff.1 h1 :)
          · exact hno i (by omega)
        all_goals simp [go_sem, netV, hp1, hp2, hp3, mays]
      · simp (disch := omega) [go_sem]
        exact (bad (.inr (.inr (.inl (of_decide_eq_false h1))))).symm
    · have h0 : TimedOk n := hno 0 (by omega)
      simp (disch := omega) [go_sem, netV, mays]
      refine callK_bool (q3 h0.1) [] (by simp [go_sem, hp1, hp2, hp3]) (fun h1 => ?_) (fun h1 => ?_)
      · simp (disch := omega) [go_sem]
        refine round_of 4 ⟨by omega, fun i hi => ?_⟩ (by omega) (Le.mk [(0, some 0), (32, some 32)] [0, 32] ⟨rfl, rfl, rfl⟩ ?_ ?_ ?_)
        · by_cases e : i = 3
          · subst e; exact (decide_eq_true_iff.1 h1 :)
          · exact hno i (by omega)
        all_goals simp [go_sem, netV, hp1, hp2, hp3, mays]
      · simp (disch := omega) [go_sem]
        exact (bad (.inr (.inr (.inr (of_decide_eq_false h1))))).symm
    · simp (disch := omega) [go_sem]
      exact (netN_ok ⟨hno 0 (by omega), hno 1 (by omega), hno 2 (by omega), hno 3 (by omega)⟩).symm

/-! the cycles -/
def cycK (n : NetN) : Nat := ((n.high - n.low) / n.step).toNat
def cycAt (n : NetN) (i : Nat) : Int := n.low + n.step * i
def cycN (n : NetN) (k : Nat) : List Int := (List.range k).map (cycAt n)
theorem cycN_succ (n : NetN) (k : Nat) : cycN n (k + 1) = cycN n k ++ [cycAt n k] := by simp [cycN, List.range_succ]
theorem cycN_len (n : NetN) (k : Nat) : (cycN n k).length = k := by simp [cycN]
theorem TimedOk.q {n : NetN} (h : TimedOk n) : n.step * cycK n = n.high - n.low ∧ cycK n ≤ 64 := by
  obtain ⟨h1, h2, h3, h4, h5⟩ := h
  have hq : (n.high - n.low).tdiv n.step = (n.high - n.low) / n.step := Int.tdiv_eq_ediv_of_nonneg (by omega)
  have hr : (n.high - n.low).tmod n.step = (n.high - n.low) % n.step := Int.tmod_eq_emod_of_nonneg (by omega)
  have hq0 : 0 ≤ (n.high - n.low) / n.step := Int.ediv_nonneg (by omega) (by omega)
  rw [hq] at h5
  rw [hr] at h4
  have e : ((cycK n : Nat) : Int) = (n.high - n.low) / n.step := by unfold cycK; omega
  constructor
  · rw [e]
    exact Int.mul_ediv_cancel_of_emod_eq_zero h4
  · omega
theorem TimedOk.at {n : NetN} (h : TimedOk n) {i : Nat} : cycAt n i ≤ n.high ↔ i ≤ cycK n := by
  have hq := h.q.1
  have hs := h.2.2.1.1
  unfold cycAt
  constructor
  · intro h1
    apply Classical.byContradiction
    intro h2
    have : n.step * ((cycK n : Int) + 1) ≤ n.step * i := Int.mul_le_mul_of_nonneg_left (by omega) (by omega)
    rw [Int.mul_add] at this
    omega
  · intro h1
    have : n.step * (i : Int) ≤ n.step * (cycK n : Int) := Int.mul_le_mul_of_nonneg_left (by omega) (by omega)
    omega
theorem TimedOk.at_bound {n : NetN} (h : TimedOk n) {i : Nat} (hi : i ≤ cycK n + 1) : 1 ≤ cycAt n i ∧ cycAt n i ≤ 2097152 := by
  have hq := h.q.1
  have hs := h.2.2.1
  have h2 : n.step * (i : Int) ≤ n.step * ((cycK n : Int) + 1) := Int.mul_le_mul_of_nonneg_left (by omega) (by omega)
  have h3 : 0 ≤ n.step * (i : Int) := Int.mul_nonneg (by omega) (by omega)
  rw [Int.mul_add] at h2
  have := h.1
  have := h.2.1
  unfold cycAt
  omega

/-! The layer net: Cycles. -/
noncomputable def allCyc (n : NetN) : List Int := if NetOk n then cycN n (cycK n + 1) else []
theorem allCyc_ok {n : NetN} (h : NetOk n) : allCyc n = cycN n (cycK n + 1) := by unfold allCyc; rw [if_pos h]
theorem allCyc_bad {n : NetN} (h : ¬ NetOk n) : allCyc n = [] := by unfold allCyc; rw [if_neg h]
def cyF (n : NetN) : Nat → St
  | 0 => ⟨[(6, .int .i64 n.low), (5, .nilS), (1, .ptr 0 1 0 0), (2, .nilS), (3, .int .i64 0)], [(0, ⟨.box, 26, 6, [netV n]⟩)], 1024, [], 27, 0, tabG⟩
  | k + 1 => ⟨[(6, .int .i64 (cycAt n (k + 1))), (5, .obj 512 (k + 1)), (1, .ptr 0 1 0 0), (2, .nilS), (3, .int .i64 0)], [(512, ⟨.arr, 3, 1, ints (cycN n (k + 1))⟩), (0, ⟨.box, 26, 6, [netV n]⟩)], 1024, [], 27, 0, tabG⟩

theorem ints_app (a b : List Int) : ints (a ++ b) = ints a ++ ints b := by simp [ints]
set_option maxHeartbeats 1000000 in
theorem cycles_spec (n : NetN) : FnD Tryz.prog 128 [netV n] (.tup [.sl 1 (ints (allCyc n)), .int .i64 (netN n)]) tabG := by
  have hp1 := sits_pure n.sites
  have hp2 := subs_pure n.subs
  have hp3 := weds_pure n.weds
  have hc := ncheck_spec n
  have hnv : netV n = .agg [.sl 12 (n.sites.map sitV), .sl 2 (n.subs.map subV), .sl 4 (n.weds.map wedV), .int .i64 n.low, .int .i64 n.high, .int .i64 n.step] := rfl
  rw [hnv] at hc ⊢
  refine fnD_of mixed Tryz.func128 rfl rfl (by simp [Tryz.ntmps128]) fun hwf E => ?_
  simp (disch := omega) [Tryz.ntmps128, go_sem]
  refine callK_data hc [] (by simp [go_sem, hp1, hp2, hp3]) (.inl rfl) (by simp [go_sem]) (fun _ => ?_) (by simp [tabG, go_sem])
  by_cases hOk : NetOk n
  · rw [netN_ok hOk, allCyc_ok hOk]
    have hT := hOk.1
    have hq := hT.q
    simp (disch := omega) [go_sem]
    refine awz_loop mixed (cyF n) (fun k => k ≤ cycK n + 1) (fun k => cycK n + 1 - k) 0 (by simp) ?_ ?_
    · refine Le.mk [(0, some 0)] [0] ⟨rfl, rfl, rfl⟩ ?_ ?_ ?_ <;> simp [go_sem, cyF, netV, hp1, hp2, hp3]
    · rintro k hk
      cases k with
      | zero =>
        have h0 := hT.2.1
        have hb := hT.at_bound (i := 1) (by omega)
        have e : cycAt n 1 = n.low + n.step := by simp [cycAt]
        have e0 : cycAt n 0 = n.low := by simp [cycAt]
        rw [e] at hb
        simp (disch := omega) [go_sem, cyF, netV]
        refine br_of (fun h => ?_) (fun h => ?_) <;> simp at h
        · simp (disch := omega) [go_sem]
          refine round_of 1 (by omega) (by omega) (Le.mk [(0, some 0), (512, some 1136)] [0, 1136] ⟨rfl, rfl, rfl⟩ ?_ ?_ ?_) <;> simp [go_sem, cyF, netV, hp1, hp2, hp3, e, e0, cycN, ints]
        · omega
      | succ k =>
        have hb := hT.at_bound (i := k + 1) (by omega)
        have ha := hT.at (i := k + 1)
        have hs := cycN_succ n (k + 1)
        simp (disch := omega) [go_sem, cyF, netV]
        refine br_of (fun h => ?_) (fun h => ?_) <;> simp at h
        · simp (disch := omega) [go_sem, ints_len, cycN_len]
          refine ⟨by omega, ?_⟩
          have e : cycAt n (k + 1) + n.step = cycAt n (k + 1 + 1) := by
            unfold cycAt
            rw [show ((k + 1 + 1 : Nat) : Int) = ((k + 1 : Nat) : Int) + 1 by omega, Int.mul_add]; omega
          have hb2 := hT.at_bound (i := k + 1 + 1) (by omega)
          have hs2 : ints (cycN n (k + 1 + 1)) = ints (cycN n (k + 1)) ++ [.int .i64 (cycAt n (k + 1))] := by rw [hs, ints_app]; rfl
          rw [e, i64_wrap (by omega) (by omega)]
          refine round_of (k + 1 + 1) (by omega) (by omega) (Le.mk [(0, some 0), (512, some 512)] [0, 512] ⟨rfl, rfl, rfl⟩ ?_ ?_ ?_) <;> simp [go_sem, cyF, netV, hp1, hp2, hp3, hs2, ints_pure]
        · have hkk : k = cycK n := by omega
          subst hkk
          simp (disch := omega) [go_sem, ints_len, cycN_len]
          exact argsLe_self (ints_pure _)
  · rw [netN_bad hOk, allCyc_bad hOk]
    simp (disch := omega) [go_sem, ints]
end Go.Proofs.YtdeionjkcmpnpaaGreatDoor
