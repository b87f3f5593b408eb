/- The layer net: weds. -/
import Derived.Test.YthjojamcolmbdaaDoorNet3
namespace Go.Proofs.YthjojamcolmbdaaDoor
open Go.AM Go.RowKit
set_option maxRecDepth 100000

def findQ (l : List Int) (q : Int → Bool) : Int := match l.findIdx? q with | some i => i | none => -1
theorem indexFunc_ints (l : List Int) (g : FuncId) (fst caps : List V) (q : Int → Bool) (hpf : pures fst) (hpc : pures caps) (hq : ∀ x ∈ l, FnD Tryd.prog g (fst ++ [.int .i64 x] ++ caps) (.bool (q x))) :
    FnD Tryd.prog 154 [.sl 1 (ints l), .func (.func g) fst caps] (.int .i64 (findQ l q)) := by
  have yes : ∀ k (h : k < l.length), (∀ j (hj : j < l.length), j < k → q l[j] = false) → q l[k] = true → (findQ l q) = k := by
    intro k h hno hk
    have : l.findIdx? q = some k := by
      rw [List.findIdx?_eq_some_iff_getElem]
      exact ⟨h, hk, fun j hj => by simp [hno j (by omega) hj]⟩
    simp [findQ, this]
  have no : (∀ j (hj : j < l.length), q l[j] = false) → (findQ l q) = -1 := by
    intro hno
    have : l.findIdx? q = none := by
      rw [List.findIdx?_eq_none_iff]
      intro x hx
      obtain ⟨j, hj, rfl⟩ := List.getElem_of_mem hx
      exact hno j hj
    simp [findQ, this]
  generalize (findQ l q) = res at *
  refine fnD_of mixed Tryd.func154 rfl rfl (by simp [Tryd.ntmps154]) fun hwf E => ?_
  simp (disch := omega) [go_sem, ints_len] at hwf
  simp (disch := omega) [Tryd.ntmps154, go_sem, ints_len]
  refine awz_loop mixed (fun k : Nat => ⟨[(0, .sl 1 (ints l)), (1, .func (.func g) fst caps), (7, .int .i64 l.length), (8, .int .i64 k), (4, .int .i64 0)], [], 1024, [], 19, 0, []⟩)
    (fun k => k ≤ l.length ∧ ∀ j (hj : j < l.length), j < k → q l[j] = false) (fun k => l.length - k) 0 (by simp) ?_ ?_
  · refine Le.mk [] [] ⟨rfl, rfl, rfl⟩ ?_ ?_ ?_ <;> simp [go_sem, vsLe_self, hpf, hpc, ints_pure]
  · rintro k ⟨hk, hno⟩
    simp (disch := omega) [go_sem]
    refine br_of (fun h => ?_) (fun h => ?_) <;> simp at h
    · have hm : l[k] ∈ l := List.getElem_mem h
      simp (disch := omega) [go_sem, h, ints_len, nth_ints]
      refine callK_data (hq _ hm) [] ?_ (.inl rfl) (by simp [go_sem]) fun hw => ?_
      · simp (disch := omega) [go_sem]
        have ha := argsLe_self (hp := AM.look []) (B := fun i => i ∈ ([] : List Nat)) (n := 8) (xs := fst ++ [.int .i64 l[k]] ++ caps) (by simp [go_sem, hpf, hpc])
        simpa [AM.look] using ha
      · simp (disch := omega) [go_sem]
        refine br_of (fun h2 => ?_) (fun h2 => ?_)
        · simp (disch := omega) [go_sem]
          exact (yes k h hno h2).symm
        · simp (disch := omega) [go_sem]
          refine round_of (k + 1) ⟨h, fun j hj hk' => ?_⟩ (by omega) (Le.mk [] [] ⟨rfl, rfl, rfl⟩ ?_ ?_ ?_)
          · by_cases e : j = k
            · subst e; exact h2
            · exact hno j hj (by omega)
          all_goals simp (disch := omega) [go_sem, vsLe_self, hpf, hpc, ints_pure]
    · simp (disch := omega) [go_sem]
      exact (no fun j hj => hno j hj (by omega)).symm
theorem find_any (l : List Int) (q : Int → Bool) : decide ((findQ l q) ≥ 0) = l.any q := by
  unfold findQ
  cases h : l.findIdx? q with
  | none =>
    have := List.findIdx?_eq_none_iff.1 h
    have : l.any q = false := by simpa using this
    simp [this]
  | some i =>
    obtain ⟨hi, hp, _⟩ := List.findIdx?_eq_some_iff_getElem.1 h
    have : l.any q = true := List.any_eq_true.2 ⟨_, List.getElem_mem hi, hp⟩
    simp [this]
theorem containsFunc_ints (l : List Int) (g : FuncId) (fst caps : List V) (q : Int → Bool) (hpf : pures fst) (hpc : pures caps) (hq : ∀ x ∈ l, FnD Tryd.prog g (fst ++ [.int .i64 x] ++ caps) (.bool (q x))) :
    FnD Tryd.prog 140 [.sl 1 (ints l), .func (.func g) fst caps] (.bool (l.any q)) := by
  refine fnD_of mixed Tryd.func140 rfl rfl (by simp [Tryd.ntmps140]) fun hwf E => ?_
  simp (disch := omega) [Tryd.ntmps140, go_sem] at hwf ⊢
  refine callK_data (indexFunc_ints l g fst caps q hpf hpc hq) [] ?_ (.inl rfl) (by simp [go_sem]) fun hw => ?_
  · simp [go_sem, hpf, hpc, ints_pure]
  · simp (disch := omega) [go_sem]
    simpa using find_any l q

theorem wedded1_spec (n : NetN) (x : Int) (hl : 1 ≤ n.low ∧ n.low ≤ 1048576) : FnD Tryd.prog 141 [.int .i64 x, .tptr 6 [netV n] 0 0] (.bool (!inN x 0 (n.low - 1))) := by
  unfold netV
  refine fnD_of mixed Tryd.func141 rfl rfl (by simp [Tryd.ntmps141]) fun hwf E => ?_
  simp (disch := omega) [Tryd.ntmps141, go_sem]
  refine callK_bool (nin_spec x 0 (n.low - 1)) [] (by simp [go_sem]) (fun h1 => ?_) (fun h1 => ?_) <;> simp (disch := omega) [go_sem, h1]

/-! sets of pairs -/
def marks2 (l : List (Int × Int)) : List V := l.map fun p => .tup [.agg [.int .i64 p.1, .int .i64 p.2], .bool true]
theorem marks2_len (l : List (Int × Int)) : (marks2 l).length = l.length := by simp [marks2]
theorem marks2_pure (l : List (Int × Int)) : pures (marks2 l) := pures_map _ (fun u => by simp [go_sem]) l
theorem mfind_marks2 (a b : Int) : ∀ (l : List (Int × Int)), mfind (.agg [.int .i64 a, .int .i64 b]) (marks2 l) = some (markV (decide ((a, b) ∈ l)))
  | [] => by simp [marks2, mfind, markV]
  | y :: l => by
    have ih := mfind_marks2 a b l
    unfold marks2 at ih ⊢
    simp only [List.map_cons, mfind, keyB, and_self, if_true]
    by_cases h : (a, b) = y
    · subst h; simp [markV]
    · have hb : (a == y.1 && b == y.2) = false := by
        obtain ⟨c, d⟩ := y
        simp only [Prod.mk.injEq] at h
        rw [Bool.and_eq_false_iff]
        by_cases e : a = c
        · right; simpa using fun e2 => h ⟨e, e2⟩
        · left; simpa using e
      simp only [hb, ih]
      simp [h]
theorem mput_marks2 (a b : Int) : ∀ (l : List (Int × Int)), (a, b) ∉ l → mput (.agg [.int .i64 a, .int .i64 b]) (.bool true) (marks2 l) = some (marks2 (l ++ [(a, b)]))
  | [], _ => by simp [marks2, mput]
  | y :: l, h => by
    simp only [List.mem_cons, not_or] at h
    have ih := mput_marks2 a b l h.2
    unfold marks2 at ih ⊢
    simp only [List.map_cons, List.cons_append, mput, keyB, and_self, if_true]
    have hb : (a == y.1 && b == y.2) = false := by
      obtain ⟨c, d⟩ := y
      have h1 := h.1
      simp only [Prod.mk.injEq] at h1
      rw [Bool.and_eq_false_iff]
      by_cases e : a = c
      · right; simpa using fun e2 => h1 ⟨e, e2⟩
      · left; simpa using e
    simp only [hb, ih]
    simp

def wedOk (n : NetN) (w : WedN) : Prop := 0 ≤ w.a ∧ w.a < w.b ∧ w.b < n.subs.length ∧ (1 ≤ w.votes ∧ w.votes ≤ 1048576) ∧ (1 ≤ w.offsets.length ∧ w.offsets.length ≤ 8) ∧ ∀ x ∈ w.offsets, 0 ≤ x ∧ x ≤ n.low - 1
def pairsK (n : NetN) (k : Nat) : List (Int × Int) := (n.weds.take k).map fun w => (w.a, w.b)
theorem pairsK_succ {n : NetN} {k : Nat} (h : k < n.weds.length) : pairsK n (k + 1) = pairsK n k ++ [(n.weds[k].a, n.weds[k].b)] := by
  unfold pairsK
  rw [List.take_succ_eq_append_getElem h, List.map_append]; rfl
theorem pairsK_len {n : NetN} {k : Nat} (h : k ≤ n.weds.length) : (pairsK n k).length = k := by unfold pairsK; rw [List.length_map, List.length_take]; omega
theorem pairsK_nodup {n : NetN} {k : Nat} (hA : (pairsK n n.weds.length).Nodup) (hk : k ≤ n.weds.length) : (pairsK n k).Nodup := by
  have : pairsK n k = (pairsK n n.weds.length).take k := by
    unfold pairsK
    rw [← List.map_take, List.take_take, Nat.min_eq_left hk]
  rw [this]
  exact hA.sublist (List.take_sublist _ _)
def WeddedOk (n : NetN) : Prop := n.weds.length ≤ 8 ∧ (pairsK n n.weds.length).Nodup ∧ ∀ w ∈ n.weds, wedOk n w
noncomputable instance (n : NetN) : Decidable (WeddedOk n) := Classical.propDecidable _
def wedInv (n : NetN) (k : Nat) : Prop := k ≤ n.weds.length ∧ (pairsK n k).Nodup ∧ ∀ j (h : j < n.weds.length), j < k → wedOk n n.weds[j]

set_option maxHeartbeats 2000000 in
theorem wedded_spec (n : NetN) (hl : 1 ≤ n.low ∧ n.low ≤ 1048576) : FnD Tryd.prog 103 [netV n] (.bool (decide (WeddedOk n))) := by
  have hp1 := sits_pure n.sites
  have hp2 := subs_pure n.subs
  have hp3 := weds_pure n.weds
  have hw1 := fun x => wedded1_spec n x hl
  have hnv : netV n = .agg [.sl 12 (n.sites.map sitV), .sl 2 (n.subs.map subV), .sl 4 (n.weds.map wedV), .int .i64 n.low, .int .i64 n.high, .int .i64 n.step] := rfl
  rw [hnv] at hw1 ⊢
  refine fnD_of mixed Tryd.func103 rfl rfl (by simp [Tryd.ntmps103]) fun hwf E => ?_
  simp (disch := omega) [go_sem] at hwf
  simp (disch := omega) [Tryd.ntmps103, go_sem]
  refine awz_loop mixed (fun k : Nat => ⟨[(11, .int .i64 k), (10, .int .i64 n.weds.length), (9, .sl 4 (n.weds.map wedV)), (3, .mp 32), (1, .ptr 0 1 0 0), (2, .bool false)], [(32, ⟨.map, 155, 1, marks2 (pairsK n k)⟩), (0, ⟨.box, 59, 6, [netV n]⟩)], 1024, [], 67, 0, []⟩)
    (wedInv n) (fun k => n.weds.length - k) 0 ⟨by omega, by simp [pairsK], fun j h hj => by omega⟩ ?_ ?_
  · refine Le.mk [(0, some 0), (32, some 32)] [0, 32] ⟨rfl, rfl, rfl⟩ ?_ ?_ ?_ <;> simp [go_sem, netV, hp1, hp2, hp3, pairsK, marks2]
  · rintro k ⟨hk, hnd, hno⟩
    simp (disch := omega) [go_sem, netV]
    refine br_of (fun h => ?_) (fun h => ?_) <;> simp at h
    · have he : nth (n.weds.map wedV) k = wedV n.weds[k] := nth_map h
      have hmem : n.weds[k] ∈ n.weds := List.getElem_mem h
      have hsucc := pairsK_succ h
      have hlen := pairsK_len hk
      have hull : n.weds[k].offsets.length ≤ 140737488355328 := by
        have := wfs_mem hwf.2.2.1.2 _ hmem
        simp [wedV, go_sem, ints_len] at this
        omega
      simp (disch := omega) [go_sem, h, he, wedV, ints_len]
      generalize hu : n.weds[k] = u at *
      have badA : ¬ wedOk n u → WeddedOk n → False := fun hb hA => hb (hA.2.2 _ hmem)
      refine gbr_of (fun h1 => ?_) (fun h1 => ?_)
      · simp at h1
        have e1 : decide (u.a < 0) = false := by simp; omega
        have e2 : decide (u.b ≤ u.a) = false := by simp; omega
        have e3 : decide ((n.subs.length : Int) ≤ u.b) = false := by simp; omega
        simp (disch := omega) [go_sem, e1, e2, e3, mfind_marks2, markV_get]
        by_cases h2 : (u.a, u.b) ∈ pairsK n k
        · simp (disch := omega) [go_sem, h2]
          intro hA
          have hx := pairsK_nodup hA.2.1 (show k + 1 ≤ n.weds.length by omega)
          rw [hsucc, List.nodup_append] at hx
          exact hx.2.2 _ h2 _ (by simp) rfl
        · simp (disch := omega) [go_sem, h2]
          refine callK_bool (nin_spec u.votes 1 1048576) [] (by simp [go_sem]) (fun h3 => ?_) (fun h3 => ?_)
          · rw [inN_iff] at h3
            simp (disch := omega) [go_sem, ints_len]
            refine callK_bool (nin_spec u.offsets.length 1 8) [] (by simp [go_sem]) (fun h4 => ?_) (fun h4 => ?_)
            · rw [inN_iff] at h4
              simp (disch := omega) [go_sem, ints_len]
              have hq := containsFunc_ints u.offsets 141 [] [.tptr 6 [netV n] 0 0] (fun x => !inN x 0 (n.low - 1)) (by simp [go_sem]) (by simp [go_sem]) (fun x _ => by simpa [hnv] using hw1 x)
              rw [hnv] at hq
              refine callK_bool hq [0] (by simp [go_sem, ints_pure, hp1, hp2, hp3]) (fun h5 => ?_) (fun h5 => ?_)
              · simp (disch := omega) [go_sem]
                refine badA fun hb => ?_
                simp only [List.any_eq_true] at h5
                obtain ⟨x, hx, h6⟩ := h5
                have := inN_iff.2 (hb.2.2.2.2.2 x hx)
                rw [this] at h6; cases h6
              · have hok : wedOk n u := ⟨by omega, by omega, by omega, h3, by omega, fun x hx => by
                  have := List.any_eq_false.1 h5 x hx
                  simp only [Bool.not_eq_true', Bool.not_eq_false] at this
                  exact inN_iff.1 this⟩
                have hm := mput_marks2 u.a u.b _ h2
                simp (disch := omega) [go_sem, hm, marks2_len, hlen]
                refine ⟨by omega, ?_⟩
                refine round_of (k + 1) ⟨by omega, ?_, fun j hj hjk => ?_⟩ (by omega) (Le.mk [(0, some 0), (32, some 32)] [0, 32] ⟨rfl, rfl, rfl⟩ ?_ ?_ ?_)
                · rw [hsucc, List.nodup_append]
                  refine ⟨hnd, by simp, fun a ha b hb => ?_⟩
                  simp only [List.mem_singleton] at hb
                  subst hb
                  exact fun e => h2 (e ▸ ha)
                · by_cases e2 : j = k
                  · subst e2; rw [hu]; exact hok
                  · exact hno j hj (by omega)
                all_goals simp [go_sem, netV, hp1, hp2, hp3, hsucc, marks2_pure]
            · simp (disch := omega) [go_sem]
              refine badA fun hb => ?_
              rw [inN_iff.2 (by have := hb.2.2.2.2.1; omega)] at h4; cases h4
          · simp (disch := omega) [go_sem]
            refine badA fun hb => ?_
            rw [inN_iff.2 hb.2.2.2.1] at h3; cases h3
      · have ht : (decide (u.a < 0) || decide (u.b ≤ u.a) || decide ((n.subs.length : Int) ≤ u.b)) = true := by
          revert h1
          cases decide (u.a < 0) <;> cases decide (u.b ≤ u.a) <;> cases decide ((n.subs.length : Int) ≤ u.b) <;> simp
        have hcond : ¬ wedOk n u := fun hb => by
          obtain ⟨b1, b2, b3, _⟩ := hb
          simp at ht
          omega
        simp (disch := omega) [go_sem, h1, ht]
        exact badA hcond
    · have hkl : k = n.weds.length := by omega
      subst hkl
      simp (disch := omega) [go_sem]
      refine ⟨fun hc => ⟨by omega, hnd, fun s hs => ?_⟩, fun hc => by have := hc.1; omega⟩
      obtain ⟨j, hj, rfl⟩ := List.getElem_of_mem hs
      exact hno j hj hj
end Go.Proofs.YthjojamcolmbdaaDoor
