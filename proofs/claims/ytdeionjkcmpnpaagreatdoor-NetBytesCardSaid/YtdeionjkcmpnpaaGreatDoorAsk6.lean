
/- net.Sub, net.Site and the document's own answers. -/
import Derived.Test.YtdeionjkcmpnpaaGreatDoorRefN
set_option linter.unusedSimpArgs false
set_option linter.unusedVariables false
namespace Go.Proofs.YtdeionjkcmpnpaaGreatDoor
open Go.AM Go.RowKit
set_option maxRecDepth 100000

/-- The first of a list that is so. -/
def findA {α : Type} (l : List α) (q : α → Bool) : Int := match l.findIdx? q with | some i => i | none => -1
theorem findA_yes {α : Type} {l : List α} {q : α → Bool} (k : Nat) (h : k < l.length) (hno : ∀ j (hj : j < l.length), j < k → q l[j] = false) (hk : q l[k] = true) : findA l q = k := by
  have : l.findIdx? q = some k := by
    rw [List.findIdx?_eq_some_iff_getElem]
    exact ⟨h, hk, fun j hj => by simp [hno j (by omega) hj]⟩
  simp [findA, this]
theorem findA_no {α : Type} {l : List α} {q : α → Bool} (hno : ∀ j (hj : j < l.length), q l[j] = false) : findA l q = -1 := by
  have : l.findIdx? q = none := by
    rw [List.findIdx?_eq_none_iff]
    intro x hx
    obtain ⟨j, hj, rfl⟩ := List.getElem_of_mem hx
    exact hno j hj
  simp [findA, this]
theorem findA_bound {α : Type} (l : List α) (q : α → Bool) : -1 ≤ findA l q ∧ findA l q < l.length := by
  unfold findA
  split
  · rename_i i h
    obtain ⟨h1, _⟩ := List.findIdx?_eq_some_iff_getElem.1 h
    omega
  · omega
theorem indexFunc_subs (l : List SubN) (g : FuncId) (caps : List V) (q : SubN → Bool) (hpc : pures caps) (hq : ∀ x ∈ l, FnD Tryz.prog g ([subV x] ++ caps) (.bool (q x))) :
    FnD Tryz.prog 72 [.sl 2 (l.map subV), .func (.func g) [] caps] (.int .i64 (findA l q)) := by
  have hpl := subs_pure l
  refine fnD_of mixed Tryz.func72 rfl rfl (by simp [Tryz.ntmps72]) fun hwf E => ?_
  simp (disch := omega) [go_sem] at hwf
  simp (disch := omega) [Tryz.ntmps72, go_sem]
  refine awz_loop mixed (fun k : Nat => ⟨[(0, .sl 2 (l.map subV)), (1, .func (.func g) [] caps), (7, .int .i64 l.length), (8, .int .i64 k), (4, .int .i64 0)], [], 1024, [], 19, 0, []⟩)
    (fun k => k ≤ l.length ∧ ∀ j (hj : j < l.length), j < k → q l[j] = false) (fun k => l.length - k) 0 (by simp) ?_ ?_
  · refine Le.mk [] [] ⟨rfl, rfl, rfl⟩ ?_ ?_ ?_ <;> simp [go_sem, vsLe_self, hpc, hpl]
  · rintro k ⟨hk, hno⟩
    simp (disch := omega) [go_sem]
    refine br_of (fun h => ?_) (fun h => ?_) <;> simp at h
    · have hm : l[k] ∈ l := List.getElem_mem h
      have hnt : nth (l.map subV) k = subV l[k] := nth_map h
      have hpt : partV Tryz.prog 95 (subV l[k]) 0 = some (subV l[k]) := rfl
      simp (disch := omega) [go_sem, h, hnt, hpt]
      refine callK_data (hq _ hm) [] ?_ (.inl rfl) (by simp [go_sem]) fun hw => ?_
      · simp (disch := omega) [go_sem]
        have hpx : (subV l[k]).pure := by simp [subV, go_sem, ints_pure]
        have ha := argsLe_self (hp := AM.look []) (B := fun i => i ∈ ([] : List Nat)) (n := 8) (xs := [subV l[k]]) (by simp [go_sem, hpx])
        simpa [AM.look, all2] using ha
      · simp (disch := omega) [go_sem]
        refine br_of (fun h2 => ?_) (fun h2 => ?_)
        · simp (disch := omega) [go_sem]
          exact (findA_yes k h hno h2).symm
        · simp (disch := omega) [go_sem]
          refine round_of (k + 1) ⟨h, fun j hj hk' => ?_⟩ (by omega) (Le.mk [] [] ⟨rfl, rfl, rfl⟩ ?_ ?_ ?_)
          · by_cases e : j = k
            · subst e; exact h2
            · exact hno j hj (by omega)
          all_goals simp (disch := omega) [go_sem, vsLe_self, hpc, hpl]
    · simp (disch := omega) [go_sem]
      exact (findA_no fun j hj => hno j hj (by omega)).symm
theorem indexFunc_sits (l : List Sit) (g : FuncId) (caps : List V) (q : Sit → Bool) (hpc : pures caps) (hq : ∀ x ∈ l, FnD Tryz.prog g ([sitV x] ++ caps) (.bool (q x))) :
    FnD Tryz.prog 114 [.sl 12 (l.map sitV), .func (.func g) [] caps] (.int .i64 (findA l q)) := by
  have hpl := sits_pure l
  refine fnD_of mixed Tryz.func114 rfl rfl (by simp [Tryz.ntmps114]) fun hwf E => ?_
  simp (disch := omega) [go_sem] at hwf
  simp (disch := omega) [Tryz.ntmps114, go_sem]
  refine awz_loop mixed (fun k : Nat => ⟨[(0, .sl 12 (l.map sitV)), (1, .func (.func g) [] caps), (7, .int .i64 l.length), (8, .int .i64 k), (4, .int .i64 0)], [], 1024, [], 19, 0, []⟩)
    (fun k => k ≤ l.length ∧ ∀ j (hj : j < l.length), j < k → q l[j] = false) (fun k => l.length - k) 0 (by simp) ?_ ?_
  · refine Le.mk [] [] ⟨rfl, rfl, rfl⟩ ?_ ?_ ?_ <;> simp [go_sem, vsLe_self, hpc, hpl]
  · rintro k ⟨hk, hno⟩
    simp (disch := omega) [go_sem]
    refine br_of (fun h => ?_) (fun h => ?_) <;> simp at h
    · have hm : l[k] ∈ l := List.getElem_mem h
      have hnt : nth (l.map sitV) k = sitV l[k] := nth_map h
      have hpt : partV Tryz.prog 87 (sitV l[k]) 0 = some (sitV l[k]) := rfl
      simp (disch := omega) [go_sem, h, hnt, hpt]
      refine callK_data (hq _ hm) [] ?_ (.inl rfl) (by simp [go_sem]) fun hw => ?_
      · simp (disch := omega) [go_sem]
        have hpx : (sitV l[k]).pure := sit_pure _
        have ha := argsLe_self (hp := AM.look []) (B := fun i => i ∈ ([] : List Nat)) (n := 8) (xs := [sitV l[k]]) (by simp [go_sem, hpx])
        simpa [AM.look, all2] using ha
      · simp (disch := omega) [go_sem]
        refine br_of (fun h2 => ?_) (fun h2 => ?_)
        · simp (disch := omega) [go_sem]
          exact (findA_yes k h hno h2).symm
        · simp (disch := omega) [go_sem]
          refine round_of (k + 1) ⟨h, fun j hj hk' => ?_⟩ (by omega) (Le.mk [] [] ⟨rfl, rfl, rfl⟩ ?_ ?_ ?_)
          · by_cases e : j = k
            · subst e; exact h2
            · exact hno j hj (by omega)
          all_goals simp (disch := omega) [go_sem, vsLe_self, hpc, hpl]
    · simp (disch := omega) [go_sem]
      exact (findA_no fun j hj => hno j hj (by omega)).symm

theorem sub1_spec (u : SubN) (x : Int) : FnD Tryz.prog 73 [subV u, .tptr 1 [.int .i64 x] 0 0] (.bool (decide (x ∈ u.sites))) := by
  unfold subV
  refine fnD_of mixed Tryz.func73 rfl rfl (by simp [Tryz.ntmps73]) fun hwf E => ?_
  simp (disch := omega) [Tryz.ntmps73, go_sem]
  refine callK_data (contains_spec u.sites x) [] (by simp [go_sem, ints_pure]) (.inl rfl) (by simp [go_sem]) fun hw => ?_
  simp (disch := omega) [go_sem]
theorem site1_spec (s : Sit) (x : Int) : FnD Tryz.prog 115 [sitV s, .tptr 1 [.int .i64 x] 0 0] (.bool (s.id == x)) := by
  unfold sitV
  refine fnD_of mixed Tryz.func115 rfl rfl (by simp [Tryz.ntmps115]) fun hwf E => ?_
  simp (disch := omega) [Tryz.ntmps115, go_sem]

def subN (n : NetN) (x : Int) : Int := findA n.subs fun u => decide (x ∈ u.sites)
def placeS (n : NetN) (x : Int) : Int := findA n.sites fun s => s.id == x

set_option maxHeartbeats 1000000 in
theorem nsub_spec (n : NetN) (x : Int) : FnD Tryz.prog 31 [netV n, .int .i64 x] (.tup [.int .i64 (if NetOk n ∧ 0 ≤ subN n x then subN n x else 0), .int .i64 (if NetOk n then (if 0 ≤ subN n x then 0 else 2) else 60)]) tabG := by
  have hpu := (⟨sits_pure n.sites, subs_pure n.subs, weds_pure n.weds⟩ : _ ∧ _ ∧ _)
  obtain ⟨hp1, hp2, hp3⟩ := hpu
  have hc := ncheck_spec n
  have hi := indexFunc_subs n.subs 73 [.tptr 1 [.int .i64 x] 0 0] (fun u => decide (x ∈ u.sites)) (by simp [go_sem]) (fun u _ => by simpa using sub1_spec u x)
  have hb := findA_bound n.subs (fun u => decide (x ∈ u.sites))
  have hnv : netV n = .agg [.sl 12 (n.sites.map sitV), .sl 2 (n.subs.map subV), .sl 4 (n.weds.map wedV), .int .i64 n.low, .int .i64 n.high, .int .i64 n.step] := rfl
  unfold subN
  generalize findA n.subs (fun u => decide (x ∈ u.sites)) = r at *
  rw [hnv] at hc ⊢
  refine fnD_of mixed Tryz.func31 rfl rfl (by simp [Tryz.ntmps31]) fun hwf E => ?_
  simp (disch := omega) [go_sem] at hwf
  simp (disch := omega) [Tryz.ntmps31, go_sem]
  refine callK_data hc [] (by simp [go_sem, hp1, hp2, hp3]) (.inl rfl) (by simp [go_sem]) (fun _ => ?_) (by simp [tabG, go_sem])
  by_cases hOk : NetOk n
  · rw [netN_ok hOk]
    simp (disch := omega) [go_sem, hOk]
    refine callK_data hi [16] (by simp [go_sem, hp1, hp2, hp3]) (.inr (by simp [go_sem])) (by simp [go_sem]) (fun _ => ?_)
    simp (disch := omega) [go_sem, hOk]
    refine br_of (fun h1 => ?_) (fun h1 => ?_) <;> simp at h1
    · have e1 : ¬ 0 ≤ r := by omega
      simp (disch := omega) [go_sem, e1]
    · have e1 : 0 ≤ r := by omega
      simp (disch := omega) [go_sem, e1]
  · rw [netN_bad hOk]
    simp (disch := omega) [go_sem, hOk]

set_option maxHeartbeats 1000000 in
theorem nsite_spec (n : NetN) (x : Int) : FnD Tryz.prog 58 [netV n, .int .i64 x] (.tup [.int .i64 (if NetOk n ∧ 0 ≤ placeS n x then placeS n x else 0), .int .i64 (if NetOk n then (if 0 ≤ placeS n x then 0 else 2) else 60)]) tabG := by
  have hpu := (⟨sits_pure n.sites, subs_pure n.subs, weds_pure n.weds⟩ : _ ∧ _ ∧ _)
  obtain ⟨hp1, hp2, hp3⟩ := hpu
  have hc := ncheck_spec n
  have hi := indexFunc_sits n.sites 115 [.tptr 1 [.int .i64 x] 0 0] (fun s => s.id == x) (by simp [go_sem]) (fun u _ => by simpa using site1_spec u x)
  have hb := findA_bound n.sites (fun s => s.id == x)
  have hnv : netV n = .agg [.sl 12 (n.sites.map sitV), .sl 2 (n.subs.map subV), .sl 4 (n.weds.map wedV), .int .i64 n.low, .int .i64 n.high, .int .i64 n.step] := rfl
  unfold placeS
  generalize findA n.sites (fun s => s.id == x) = r at *
  rw [hnv] at hc ⊢
  refine fnD_of mixed Tryz.func58 rfl rfl (by simp [Tryz.ntmps58]) fun hwf E => ?_
  simp (disch := omega) [go_sem] at hwf
  simp (disch := omega) [Tryz.ntmps58, go_sem]
  refine callK_data hc [] (by simp [go_sem, hp1, hp2, hp3]) (.inl rfl) (by simp [go_sem]) (fun _ => ?_) (by simp [tabG, go_sem])
  by_cases hOk : NetOk n
  · rw [netN_ok hOk]
    simp (disch := omega) [go_sem, hOk]
    refine callK_data hi [16] (by simp [go_sem, hp1, hp2, hp3]) (.inr (by simp [go_sem])) (by simp [go_sem]) (fun _ => ?_)
    simp (disch := omega) [go_sem, hOk]
    refine br_of (fun h1 => ?_) (fun h1 => ?_) <;> simp at h1
    · have e1 : ¬ 0 ≤ r := by omega
      simp (disch := omega) [go_sem, e1]
    · have e1 : 0 ≤ r := by omega
      simp (disch := omega) [go_sem, e1]
  · rw [netN_bad hOk]
    simp (disch := omega) [go_sem, hOk]

end Go.Proofs.YtdeionjkcmpnpaaGreatDoor
