/- The layer net: sites. -/
import Derived.Test.YthjojamcolmbdaaDoorNet
namespace Go.Proofs.YthjojamcolmbdaaDoor
open Go.AM Go.RowKit
set_option maxRecDepth 100000

/-! sets of numbers, as maps -/
def marks (l : List Int) : List V := l.map fun i => .tup [.int .i64 i, .bool true]
theorem marks_pure (l : List Int) : pures (marks l) := pures_map _ (fun u => by simp [go_sem]) l
theorem marks_len (l : List Int) : (marks l).length = l.length := by simp [marks]
def markV (b : Bool) : Option V := if b then some (.bool true) else none
theorem markV_get (b : Bool) : (markV b).getD (.bool false) = .bool b := by cases b <;> rfl
theorem mfind_marks (x : Int) : ∀ (l : List Int), mfind (.int .i64 x) (marks l) = some (markV (decide (x ∈ l)))
  | [] => by simp [marks, mfind, markV]
  | y :: l => by
    have ih := mfind_marks x l
    unfold marks at ih ⊢
    simp only [List.map_cons, mfind, keyB, if_true]
    by_cases h : x = y
    · subst h; simp [markV]
    · have hb : (x == y) = false := by simpa using h
      simp only [hb, ih]
      simp [h]
theorem mput_marks (x : Int) : ∀ (l : List Int), x ∉ l → mput (.int .i64 x) (.bool true) (marks l) = some (marks (l ++ [x]))
  | [], _ => by simp [marks, mput]
  | y :: l, h => by
    simp only [List.mem_cons, not_or] at h
    have ih := mput_marks x l h.2
    unfold marks at ih ⊢
    simp only [List.map_cons, List.cons_append, mput, keyB, if_true]
    have hb : (x == y) = false := by simpa using h.1
    simp only [hb, ih]
    simp

/-! sites -/
def sitedAt (n : NetN) (s : Sit) : Prop := SiteOk s ∧ s.low ≤ n.low ∧ n.high ≤ s.high
def idsN (n : NetN) (k : Nat) : List Int := (n.sites.take k).map Sit.id
theorem idsN_succ {n : NetN} {k : Nat} (h : k < n.sites.length) : idsN n (k + 1) = idsN n k ++ [n.sites[k].id] := by
  unfold idsN
  rw [List.take_succ_eq_append_getElem h, List.map_append]; rfl
theorem idsN_len {n : NetN} {k : Nat} (h : k ≤ n.sites.length) : (idsN n k).length = k := by unfold idsN; rw [List.length_map, List.length_take]; omega
def SitedOk (n : NetN) : Prop := (1 ≤ n.sites.length ∧ n.sites.length ≤ 12) ∧ (idsN n n.sites.length).Nodup ∧ ∀ s ∈ n.sites, sitedAt n s
noncomputable instance (n : NetN) : Decidable (SitedOk n) := Classical.propDecidable _

def sitedInv (n : NetN) (k : Nat) : Prop := k ≤ n.sites.length ∧ (idsN n k).Nodup ∧ ∀ j (h : j < n.sites.length), j < k → sitedAt n n.sites[j]

set_option maxHeartbeats 1000000 in
theorem sited_spec (n : NetN) : FnD Tryd.prog 101 [netV n] (.bool (decide (SitedOk n))) tabG := by
  have hp1 := sits_pure n.sites
  have hp2 := subs_pure n.subs
  have hp3 := weds_pure n.weds
  unfold netV
  refine fnD_of mixed Tryd.func101 rfl rfl (by simp [Tryd.ntmps101]) fun hwf E => ?_
  simp (disch := omega) [go_sem] at hwf
  simp (disch := omega) [Tryd.ntmps101, go_sem]
  refine awz_loop mixed (fun k : Nat => ⟨[(10, .int .i64 k), (9, .int .i64 n.sites.length), (8, .sl 12 (n.sites.map sitV)), (3, .mp 32), (1, .ptr 0 1 0 0), (2, .bool false)], [(32, ⟨.map, 154, 1, marks (idsN n k)⟩), (0, ⟨.box, 59, 6, [netV n]⟩)], 1024, [], 45, 0, tabG⟩)
    (sitedInv n) (fun k => n.sites.length - k) 0 ⟨by omega, by simp [idsN], fun j h hj => by omega⟩ ?_ ?_
  · refine Le.mk [(0, some 0), (32, some 32)] [0, 32] ⟨rfl, rfl, rfl⟩ ?_ ?_ ?_ <;> simp [go_sem, netV, hp1, hp2, hp3, idsN, marks]
  · rintro k ⟨hk, hnd, hno⟩
    simp (disch := omega) [go_sem, netV]
    refine br_of (fun h => ?_) (fun h => ?_) <;> simp at h
    · have he : nth (n.sites.map sitV) k = sitV n.sites[k] := nth_map h
      simp (disch := omega) [go_sem, h, he, mfind_marks, markV_get, sitV]
      have hc := check_spec n.sites[k]
      have bad : ¬ sitedAt n n.sites[k] → SitedOk n → False := fun hb hA => hb (hA.2.2 _ (List.getElem_mem h))
      refine gbr_of (fun h1 => ?_) (fun h1 => ?_) <;> simp at h1
      · simp (disch := omega) [go_sem, h1]
        refine callK_data hc [] (by simp [go_sem, sitV, grps_pure, phas_pure, eyes_pure, plns_pure, sets_pure, rows_pure]) (.inl rfl) (by simp [go_sem]) (fun _ => ?_) (by simp [tabG, go_sem])
        by_cases hOk : SiteOk n.sites[k]
        · rw [checkN_ok hOk]
          simp (disch := omega) [go_sem]
          refine br_of (fun h2 => ?_) (fun h2 => ?_) <;> simp at h2
          · simp (disch := omega) [go_sem]
            exact bad (fun hb => by have := hb.2; omega)
          · have hm := mput_marks _ _ h1
            simp (disch := omega) [go_sem, hm, marks_len, idsN_len hk]
            have e := idsN_succ h
            refine ⟨by omega, ?_⟩
            refine round_of (k + 1) ⟨by omega, ?_, fun j hj hjk => ?_⟩ (by omega) (Le.mk [(0, some 0), (32, some 32)] [0, 32] ⟨rfl, rfl, rfl⟩ ?_ ?_ ?_)
            · rw [e, List.nodup_append]
              refine ⟨hnd, by simp, fun a ha b hb => ?_⟩
              simp only [List.mem_singleton] at hb
              subst hb
              exact fun e => h1 (e ▸ ha)
            · by_cases e2 : j = k
              · subst e2; exact ⟨hOk, by omega⟩
              · exact hno j hj (by omega)
            all_goals simp [go_sem, netV, hp1, hp2, hp3, e, marks_pure]
        · rw [checkN_bad hOk]
          simp (disch := omega) [go_sem]
          exact bad (fun hb => hOk hb.1)
      · simp (disch := omega) [go_sem, h1]
        intro hA
        have hA2 := hA.2.1
        have e : (idsN n (k + 1)).Nodup := by
          have : idsN n (k + 1) = (idsN n n.sites.length).take (k + 1) := by
            unfold idsN
            rw [← List.map_take, List.take_take, Nat.min_eq_left (by omega)]
          rw [this]
          exact hA2.sublist (List.take_sublist _ _)
        rw [idsN_succ h, List.nodup_append] at e
        exact e.2.2 _ h1 _ (by simp) rfl
    · have hkl : k = n.sites.length := by omega
      subst hkl
      simp (disch := omega) [go_sem]
      refine callK_data (nin_spec n.sites.length 1 12) [] (by simp [go_sem]) (.inl rfl) (by simp [go_sem]) (fun _ => ?_)
      simp (disch := omega) [go_sem]
      rw [Bool.eq_iff_iff, decide_eq_true_iff (p := SitedOk n), inN_iff]
      refine ⟨fun hc => ⟨by omega, hnd, fun s hs => ?_⟩, fun hc => by have := hc.1; omega⟩
      obtain ⟨j, hj, rfl⟩ := List.getElem_of_mem hs
      exact hno j hj hj
end Go.Proofs.YthjojamcolmbdaaDoor
