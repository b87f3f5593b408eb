
/- The document's own answer on regions. -/
import Derived.Test.YtdeionjkcmpnpaaGreatDoorRefS
import Derived.Test.YtdeionjkcmpnpaaGreatDoorNetA
set_option linter.unusedSimpArgs false
set_option linter.unusedVariables false
namespace Go.Proofs.YtdeionjkcmpnpaaGreatDoor
open Go.AM Go.RowKit
set_option maxRecDepth 100000

/-! The document's own answer on regions: weds. -/
theorem r6in_spec (x a b : Int) : FnD Tryz.prog 87 [.int .i64 x, .int .i64 a, .int .i64 b] (.bool (inN x a b)) := by
  refine fnD_of mixed Tryz.func87 rfl rfl (by simp [Tryz.ntmps87]) fun hwf E => ?_
  simp (disch := omega) [Tryz.ntmps87, go_sem]
  rfl
theorem r6has_spec (l : List Int) (x : Int) : FnD Tryz.prog 155 [.sl 1 (ints l), .int .i64 x] (.bool (decide (x ∈ l))) := by
  refine fnD_of mixed Tryz.func155 rfl rfl (by simp [Tryz.ntmps155]) fun hwf E => ?_
  simp (disch := omega) [go_sem, ints_len] at hwf
  simp (disch := omega) [Tryz.ntmps155, go_sem]
  refine awz_loop mixed (fun k : Nat => ⟨[(5, .int .i64 k), (0, .sl 1 (ints l)), (1, .int .i64 x), (4, .bool false)], [], 1024, [], 18, 0, []⟩)
    (fun k => k ≤ l.length ∧ ∀ j (hj : j < l.length), j < k → l[j] ≠ x) (fun k => l.length - k) 0 (by simp) ?_ ?_
  · refine Le.mk [] [] ⟨rfl, rfl, rfl⟩ ?_ ?_ ?_ <;> simp [go_sem, ints_pure]
  · rintro k ⟨hk, hno⟩
    simp (disch := omega) [go_sem, ints_len]
    refine br_of (fun h => ?_) (fun h => ?_) <;> simp at h
    · simp (disch := omega) [go_sem, h, ints_len, nth_ints]
      refine br_of (fun h2 => ?_) (fun h2 => ?_) <;> simp at h2
      · simp (disch := omega) [go_sem]
        exact h2 ▸ List.getElem_mem h
      · simp (disch := omega) [go_sem]
        refine round_of (k + 1) ⟨h, fun j hj hk' => ?_⟩ (by omega) (Le.mk [] [] ⟨rfl, rfl, rfl⟩ ?_ ?_ ?_)
        · by_cases e : j = k
          · subst e; exact h2
          · exact hno j hj (by omega)
        all_goals simp (disch := omega) [go_sem, ints_pure]
    · simp (disch := omega) [go_sem]
      intro hm
      obtain ⟨j, hj, e⟩ := List.getElem_of_mem hm
      exact hno j hj (by omega) e

theorem mem_pairs {n : NetN} {k : Nat} (hk : k ≤ n.weds.length) {a b : Int} : (a, b) ∈ pairsK n k ↔ ∃ j, ∃ h : j < n.weds.length, j < k ∧ n.weds[j].a = a ∧ n.weds[j].b = b := by
  unfold pairsK
  rw [List.mem_map]
  constructor
  · rintro ⟨w, hw, e⟩
    obtain ⟨j, hj, rfl⟩ := List.getElem_of_mem hw
    rw [List.length_take] at hj
    rw [List.getElem_take] at e
    simp only [Prod.mk.injEq] at e
    exact ⟨j, by omega, by omega, e.1, e.2⟩
  · rintro ⟨j, h, hjk, rfl, rfl⟩
    exact ⟨n.weds[j], List.mem_take_iff_getElem.2 ⟨j, by omega, rfl⟩, rfl⟩

set_option maxHeartbeats 2000000 in
theorem rweds_spec (n : NetN) (hl : 1 ≤ n.low ∧ n.low ≤ 1048576) : FnD Tryz.prog 90 [netV n] (.bool (decide (WeddedOk n))) := by
  have hp1 := sits_pure n.sites
  have hp2 := subs_pure n.subs
  have hp3 := weds_pure n.weds
  have hnv : netV n = .agg [.sl 12 (n.sites.map sitV), .sl 2 (n.subs.map subV), .sl 4 (n.weds.map wedV), .int .i64 n.low, .int .i64 n.high, .int .i64 n.step] := rfl
  rw [hnv]
  refine fnD_of mixed Tryz.func90 rfl rfl (by simp [Tryz.ntmps90]) fun hwf E => ?_
  simp (disch := omega) [go_sem] at hwf
  simp (disch := omega) [Tryz.ntmps90, go_sem]
  refine br_of (fun h0 => ?_) (fun h0 => ?_) <;> simp at h0
  · simp (disch := omega) [go_sem]
    intro hA; have := hA.1; omega
  · simp (disch := omega) [go_sem]
    refine awz_loop mixed (fun k : Nat => ⟨[(3, .int .i64 k), (1, .ptr 0 1 0 0), (2, .bool false)], [(0, ⟨.box, 26, 6, [netV n]⟩)], 1024, [], 96, 0, []⟩)
      (wedInv n) (fun k => n.weds.length - k) 0 ⟨by omega, by simp [pairsK], fun j h hj => by omega⟩ ?_ ?_
    · refine Le.mk [(0, some 0)] [0] ⟨rfl, rfl, rfl⟩ ?_ ?_ ?_ <;> simp [go_sem, netV, hp1, hp2, hp3]
    · rintro k ⟨hk, hnd, hno⟩
      simp (disch := omega) [go_sem, netV]
      refine br_of (fun h => ?_) (fun h => ?_) <;> simp at h
      · have he : nth (n.weds.map wedV) k = wedV n.weds[k] := nth_map h
        have hmem : n.weds[k] ∈ n.weds := List.getElem_mem h
        have hsucc := pairsK_succ h
        have hull : n.weds[k].offsets.length ≤ 140737488355328 := by
          have := wfs_mem hwf.2.2.1.2 _ hmem
          simp [wedV, go_sem, ints_len] at this
          omega
        simp (disch := omega) [go_sem, h, he, wedV, ints_len]
        generalize hu : n.weds[k] = u at *
        have hp4 := ints_pure u.offsets
        have badA : ¬ wedOk n u → WeddedOk n → False := fun hb hA => hb (hA.2.2 _ hmem)
        by_cases hc : 0 ≤ u.a ∧ u.a < u.b ∧ u.b < n.subs.length
        · have e1 : decide (u.a < 0) = false := by simp; omega
          have e2 : decide (u.b ≤ u.a) = false := by simp; omega
          have e3 : decide ((n.subs.length : Int) ≤ u.b) = false := by simp; omega
          simp (disch := omega) [go_sem, e1, e2, e3]
          refine callK_bool (r6in_spec u.votes 1 1048576) [] (by simp [go_sem]) (fun h3 => ?_) (fun h3 => ?_)
          · rw [inN_iff] at h3
            simp (disch := omega) [go_sem, ints_len]
            refine callK_bool (r6in_spec u.offsets.length 1 8) [] (by simp [go_sem]) (fun h4 => ?_) (fun h4 => ?_)
            · rw [inN_iff] at h4
              simp (disch := omega) [go_sem, ints_len]
              refine awz_loop mixed (fun m : Nat => ⟨[(5, .int .i64 m), (4, .ptr 512 1 0 0), (3, .int .i64 k), (1, .ptr 0 1 0 0), (2, .bool false)], [(512, ⟨.box, 97, 4, [wedV u]⟩), (0, ⟨.box, 26, 6, [netV n]⟩)], 2048, [], 96, 0, []⟩)
                (fun m => m ≤ u.offsets.length ∧ ∀ j (hj : j < u.offsets.length), j < m → inN u.offsets[j] 0 (n.low - 1) = true) (fun m => u.offsets.length - m) 0 (by simp) ?_ ?_
              · refine Le.mk [(0, some 0), (512, some 1184)] [0, 1184] ⟨rfl, rfl, rfl⟩ ?_ ?_ ?_ <;> simp [go_sem, netV, wedV, hp1, hp2, hp3, hp4]
              · rintro m ⟨hm, hmo⟩
                simp (disch := omega) [go_sem, netV, wedV, ints_len]
                refine br_of (fun h5 => ?_) (fun h5 => ?_) <;> simp at h5
                · simp (disch := omega) [go_sem, ints_len, nth_ints, h5]
                  refine callK_bool (r6in_spec u.offsets[m] 0 (n.low - 1)) [] (by simp [go_sem]) (fun h6 => ?_) (fun h6 => ?_)
                  · simp (disch := omega) [go_sem]
                    refine ⟨.inl (by kernel_rfl), ?_⟩
                    refine round_of (m + 1) ⟨by omega, fun j hj hjm => ?_⟩ (by omega) (Le.mk [(0, some 0), (512, some 512)] [0, 512] ⟨rfl, rfl, rfl⟩ ?_ ?_ ?_)
                    · by_cases e : j = m
                      · subst e; exact h6
                      · exact hmo j hj (by omega)
                    all_goals simp [go_sem, netV, wedV, hp1, hp2, hp3, hp4]
                  · simp (disch := omega) [go_sem]
                    refine ⟨.inl (by kernel_rfl), badA fun hb => ?_⟩
                    have := hb.2.2.2.2.2 _ (List.getElem_mem h5)
                    rw [← inN_iff, h6] at this; cases this
                · have hok : wedOk n u := ⟨hc.1, hc.2.1, hc.2.2, h3, by omega, fun x hx => by
                    obtain ⟨j, hj, rfl⟩ := List.getElem_of_mem hx
                    exact inN_iff.1 (hmo j hj (by omega))⟩
                  simp (disch := omega) [go_sem]
                  refine awz_loop mixed (fun r : Nat => ⟨[(6, .int .i64 r), (4, .ptr 512 1 0 0), (3, .int .i64 k), (1, .ptr 0 1 0 0), (2, .bool false)], [(512, ⟨.box, 97, 4, [wedV u]⟩), (0, ⟨.box, 26, 6, [netV n]⟩)], 4096, [], 96, 0, []⟩)
                    (fun r => r ≤ k ∧ ∀ j (hj : j < n.weds.length), j < r → ¬ (n.weds[j].a = u.a ∧ n.weds[j].b = u.b)) (fun r => k - r) 0 (by simp) ?_ ?_
                  · refine Le.mk [(0, some 0), (512, some 512)] [0, 512] ⟨rfl, rfl, rfl⟩ ?_ ?_ ?_ <;> simp [go_sem, netV, wedV, hp1, hp2, hp3, hp4]
                  · rintro r ⟨hr, hro⟩
                    simp (disch := omega) [go_sem, netV, wedV, ints_len]
                    refine br_of (fun h6 => ?_) (fun h6 => ?_) <;> simp at h6
                    · have hrl : r < n.weds.length := by omega
                      have he2 : nth (n.weds.map wedV) r = wedV n.weds[r] := nth_map hrl
                      simp (disch := omega) [go_sem, hrl, he2, wedV]
                      refine ⟨.inl (by kernel_rfl), ?_⟩
                      refine br_of (fun h7 => ?_) (fun h7 => ?_) <;> simp at h7
                      · simp (disch := omega) [go_sem]
                        intro hA
                        have hx := pairsK_nodup hA.2.1 (show k + 1 ≤ n.weds.length by omega)
                        rw [hsucc, List.nodup_append] at hx
                        exact hx.2.2 _ ((mem_pairs hk).2 ⟨r, hrl, h6, h7.1, h7.2⟩) _ (by simp) rfl
                      · simp (disch := omega) [go_sem]
                        refine round_of (r + 1) ⟨by omega, fun j hj hjr => ?_⟩ (by omega) (Le.mk [(0, some 0), (512, some 512)] [0, 512] ⟨rfl, rfl, rfl⟩ ?_ ?_ ?_)
                        · by_cases e : j = r
                          · subst e; exact h7
                          · exact fun ha hb => hro j hj (by omega) ⟨ha, hb⟩
                        all_goals simp [go_sem, netV, wedV, hp1, hp2, hp3, hp4]
                    · have hrk : r = k := by omega
                      subst hrk
                      simp (disch := omega) [go_sem]
                      refine round_of (r + 1) ⟨by omega, ?_, fun j hj hjk => ?_⟩ (by omega) (Le.mk [(0, some 0)] [0] ⟨rfl, rfl, rfl⟩ ?_ ?_ ?_)
                      · rw [hsucc, List.nodup_append]
                        refine ⟨hnd, by simp, fun a ha b hb => ?_⟩
                        simp only [List.mem_singleton] at hb
                        subst hb
                        rintro rfl
                        obtain ⟨j, hj, hjr, ea, eb⟩ := (mem_pairs hk).1 ha
                        exact hro j hj hjr ⟨ea, eb⟩
                      · by_cases e2 : j = r
                        · subst e2; rw [hu]; exact hok
                        · exact hno j hj (by omega)
                      all_goals simp [go_sem, netV, hp1, hp2, hp3]
            · simp (disch := omega) [go_sem]
              refine badA fun hb => ?_
              rw [inN_iff.2 (by have := hb.2.2.2.2.1; omega)] at h4; cases h4
          · simp (disch := omega) [go_sem]
            refine badA fun hb => ?_
            rw [inN_iff.2 hb.2.2.2.1] at h3; cases h3
        · have hbad : WeddedOk n → False := badA fun hb => hc ⟨hb.1, hb.2.1, hb.2.2.1⟩
          by_cases e1 : u.a < 0
          · simp (disch := omega) [go_sem, e1, ints_len]
            exact hbad
          · by_cases e2 : u.b ≤ u.a
            · simp (disch := omega) [go_sem, e1, e2, ints_len]
              exact hbad
            · have e3 : (n.subs.length : Int) ≤ u.b := by omega
              simp (disch := omega) [go_sem, e1, e2, e3, ints_len]
              exact hbad
      · have hkl : k = n.weds.length := by omega
        subst hkl
        simp (disch := omega) [go_sem]
        exact ⟨by omega, hnd, fun w hw => by
          obtain ⟨j, hj, rfl⟩ := List.getElem_of_mem hw
          exact hno j hj hj⟩

/-! The document's own answer on regions: subs. -/
/-- The state with a list of numbers that begins as nil. -/
def rsF (n : NetN) (k : Nat) : List Int → St
  | [] => ⟨[(4, .int .i64 k), (3, .nilS), (1, .ptr 0 1 0 0), (2, .bool false)], [(0, ⟨.box, 26, 6, [netV n]⟩)], 1024, [], 71, 0, []⟩
  | x :: r => ⟨[(4, .int .i64 k), (3, .obj 512 (r.length + 1)), (1, .ptr 0 1 0 0), (2, .bool false)], [(512, ⟨.arr, 3, 1, ints (x :: r)⟩), (0, ⟨.box, 26, 6, [netV n]⟩)], 1024, [], 71, 0, []⟩
def rsG (n : NetN) (u : SubN) (k m : Nat) : List Int → St
  | [] => ⟨[(6, .int .i64 m), (5, .ptr 768 1 0 0), (4, .int .i64 k), (3, .nilS), (1, .ptr 0 1 0 0), (2, .bool false)], [(768, ⟨.box, 95, 2, [subV u]⟩), (0, ⟨.box, 26, 6, [netV n]⟩)], 2048, [], 71, 0, []⟩
  | x :: r => ⟨[(6, .int .i64 m), (5, .ptr 768 1 0 0), (4, .int .i64 k), (3, .obj 512 (r.length + 1)), (1, .ptr 0 1 0 0), (2, .bool false)], [(768, ⟨.box, 95, 2, [subV u]⟩), (512, ⟨.arr, 3, 1, ints (x :: r)⟩), (0, ⟨.box, 26, 6, [netV n]⟩)], 2048, [], 71, 0, []⟩

set_option maxHeartbeats 4000000 in
theorem rsubs_spec (n : NetN) (hsl : n.sites.length ≤ 12) : FnD Tryz.prog 89 [netV n] (.bool (decide (SubbedOk n))) := by
  have hp1 := sits_pure n.sites
  have hp2 := subs_pure n.subs
  have hp3 := weds_pure n.weds
  have hnv : netV n = .agg [.sl 12 (n.sites.map sitV), .sl 2 (n.subs.map subV), .sl 4 (n.weds.map wedV), .int .i64 n.low, .int .i64 n.high, .int .i64 n.step] := rfl
  rw [hnv]
  refine fnD_of mixed Tryz.func89 rfl rfl (by simp [Tryz.ntmps89]) fun hwf E => ?_
  simp (disch := omega) [go_sem] at hwf
  simp (disch := omega) [Tryz.ntmps89, go_sem]
  refine callK_bool (r6in_spec n.subs.length 1 6) [] (by simp [go_sem]) (fun h1 => ?_) (fun h1 => ?_)
  · rw [inN_iff] at h1
    simp (disch := omega) [go_sem]
    refine awz_loop mixed (fun k => rsF n k (seenK n k)) (subInv n) (fun k => n.subs.length - k) 0 ⟨by omega, by simp [seenK, seenOk, rangeOk], fun j h hj => by omega⟩ ?_ ?_
    · refine Le.mk [(0, some 0)] [0] ⟨rfl, rfl, rfl⟩ ?_ ?_ ?_ <;> simp [go_sem, netV, hp1, hp2, hp3, seenK, rsF]
    · rintro k ⟨hk, hs, hno⟩
      have hnd := nodup_len _ _ hs.1 hs.2
      by_cases h : k < n.subs.length
      · have hpre := seenK_pre n k n.subs[k] h rfl
        have hsucc := seenK_succ h
        have hz : seenKM n n.subs[k] k 0 = seenK n k := by simp [seenKM]
        have he : nth (n.subs.map subV) k = subV n.subs[k] := nth_map h
        have hmem : n.subs[k] ∈ n.subs := List.getElem_mem h
        have hull : n.subs[k].sites.length ≤ 140737488355328 := by
          have := wfs_mem hwf.2.1.2 _ hmem
          simp [subV, go_sem, ints_len] at this
          omega
        generalize hu : n.subs[k] = u at *
        have hp4 := ints_pure u.sites
        have start : ∀ (L : List Int), seenK n k = L → True := fun _ _ => trivial
        cases hL : seenK n k with
        | nil =>
          simp (disch := omega) [go_sem, netV, rsF, h, he, subV]
          refine awz_loop mixed (fun m => rsG n u k m (seenKM n u k m)) (fun m => m ≤ u.sites.length ∧ seenOk n (seenKM n u k m)) (fun m => u.sites.length - m) 0 ⟨by omega, by rw [hz]; exact hs⟩ ?_ ?_
          · rw [hz, hL]
            refine Le.mk [(0, some 0), (768, some 1184)] [0, 1184] ⟨rfl, rfl, rfl⟩ ?_ ?_ ?_ <;> simp [go_sem, netV, subV, hp1, hp2, hp3, hp4, rsG]
          · rintro m ⟨hm, hsm⟩
            have hnm := nodup_len _ _ hsm.1 hsm.2
            by_cases h2 : m < u.sites.length
            · have e := seenKM_succ (n := n) (k := k) h2
              have good : u.sites[m] ∉ seenKM n u k m → (0 ≤ u.sites[m] ∧ u.sites[m] < n.sites.length) → seenOk n (seenKM n u k (m + 1)) := fun hn hrg => by
                rw [e]
                refine ⟨?_, fun x hx => ?_⟩
                · rw [List.nodup_append]
                  refine ⟨hsm.1, by simp, fun a ha b hb => ?_⟩
                  simp only [List.mem_singleton] at hb
                  subst hb
                  exact fun e => hn (e ▸ ha)
                · rcases List.mem_append.1 hx with hx | hx
                  · exact hsm.2 x hx
                  · simp only [List.mem_singleton] at hx
                    subst hx; exact hrg
              cases hM : seenKM n u k m with
              | nil =>
                simp (disch := omega) [go_sem, netV, subV, rsG, ints_len, h2, nth_ints]
                refine callK_bool (r6in_spec u.sites[m] 0 ((n.sites.length : Int) - 1)) [] (by simp [go_sem]) (fun h3 => ?_) (fun h3 => ?_)
                · rw [inN_iff] at h3
                  simp (disch := omega) [go_sem, ints_len, h2, nth_ints]
                  refine callK_bool (r6has_spec [] u.sites[m]) [] (by simp [go_sem, ints, ints_pure]) (fun h4 => ?_) (fun h4 => ?_)
                  · simp (disch := omega) [go_sem]
                    refine ⟨.inl (by kernel_rfl), fun hA => ?_⟩
                    obtain ⟨r2, hr2⟩ := hpre (m + 1)
                    have hx := hA.2.1
                    rw [hr2] at hx
                    have hx2 := (seenOk_prefix hx).1
                    rw [e, List.nodup_append, hM] at hx2
                    exact hx2.2.2 _ (of_decide_eq_true h4) _ (by simp) rfl
                  · have hg := good (by rw [hM]; exact of_decide_eq_false h4) ⟨h3.1, by omega⟩
                    simp (disch := omega) [go_sem, ints_len, h2, nth_ints]
                    refine ⟨.inl (by kernel_rfl), ?_⟩
                    refine round_of (m + 1) ⟨by omega, hg⟩ (by omega) ?_
                    simp only [e, hM, List.nil_append, List.cons_append]
                    refine Le.mk [(0, some 0), (512, some 2560), (768, some 768)] [0, 2560, 768] ⟨rfl, rfl, rfl⟩ ?_ ?_ ?_ <;> simp [go_sem, netV, subV, hp1, hp2, hp3, hp4, rsG, ints_pure, ints_app]
                    simp [ints, go_sem]
                · simp (disch := omega) [go_sem, ints_len, h2, nth_ints]
                  refine ⟨.inl (by kernel_rfl), fun hA => ?_⟩
                  obtain ⟨r2, hr2⟩ := hpre (m + 1)
                  have hx := hA.2.1
                  rw [hr2] at hx
                  have hx2 := (seenOk_prefix hx).2 u.sites[m] (by rw [e]; simp)
                  rw [inN_iff.2 ⟨hx2.1, by omega⟩] at h3
                  cases h3
              | cons y t =>
                have hty : t.length + 1 ≤ 12 := by rw [hM] at hnm; simp at hnm; omega
                simp (disch := omega) [go_sem, netV, subV, rsG, ints_len, h2, nth_ints]
                refine callK_bool (r6in_spec u.sites[m] 0 ((n.sites.length : Int) - 1)) [] (by simp [go_sem]) (fun h3 => ?_) (fun h3 => ?_)
                · rw [inN_iff] at h3
                  simp (disch := omega) [go_sem, ints_len, h2, nth_ints]
                  refine callK_bool (r6has_spec (y :: t) u.sites[m]) [512] (by simp [go_sem, ints_len]; exact argsLe_self (ints_pure (y :: t))) (fun h4 => ?_) (fun h4 => ?_)
                  · simp (disch := omega) [go_sem]
                    refine ⟨.inl (by kernel_rfl), fun hA => ?_⟩
                    obtain ⟨r2, hr2⟩ := hpre (m + 1)
                    have hx := hA.2.1
                    rw [hr2] at hx
                    have hx2 := (seenOk_prefix hx).1
                    rw [e, List.nodup_append, hM] at hx2
                    exact hx2.2.2 _ (of_decide_eq_true h4) _ (by simp) rfl
                  · have hg := good (by rw [hM]; exact of_decide_eq_false h4) ⟨h3.1, by omega⟩
                    simp (disch := omega) [go_sem, ints_len, h2, nth_ints]
                    refine ⟨.inl (by kernel_rfl), ?_⟩
                    refine ⟨by omega, ?_⟩
                    refine round_of (m + 1) ⟨by omega, hg⟩ (by omega) ?_
                    simp only [e, hM, List.nil_append, List.cons_append]
                    refine Le.mk [(0, some 0), (512, some 512), (768, some 768)] [0, 512, 768] ⟨rfl, rfl, rfl⟩ ?_ ?_ ?_ <;> simp [go_sem, netV, subV, hp1, hp2, hp3, hp4, rsG, ints_pure, ints_app]
                    rw [show ints (y :: (t ++ [u.sites[m]])) = ints (y :: t) ++ [.int .i64 u.sites[m]] by simp [ints]]
                    exact vsLe_self _ (pures_append.2 ⟨ints_pure _, by simp [go_sem]⟩)
                · simp (disch := omega) [go_sem, ints_len, h2, nth_ints]
                  refine ⟨.inl (by kernel_rfl), fun hA => ?_⟩
                  obtain ⟨r2, hr2⟩ := hpre (m + 1)
                  have hx := hA.2.1
                  rw [hr2] at hx
                  have hx2 := (seenOk_prefix hx).2 u.sites[m] (by rw [e]; simp)
                  rw [inN_iff.2 ⟨hx2.1, by omega⟩] at h3
                  cases h3
            · have hml : m = u.sites.length := by omega
              subst hml
              have hlast : seenK n (k + 1) = seenKM n u k u.sites.length := by rw [hsucc]; simp [seenKM]
              cases hM : seenKM n u k u.sites.length with
              | nil =>
                rw [hM] at hlast
                simp (disch := omega) [go_sem, netV, subV, rsG, ints_len]
                refine callK_bool (r6has_spec u.sites u.critical) [] (by simp [go_sem, ints_pure]) (fun h3 => ?_) (fun h3 => ?_)
                · simp (disch := omega) [go_sem]
                  refine round_of (k + 1) ⟨by omega, ?_, fun j hj hjk => ?_⟩ (by omega) ?_
                  · rw [hsucc]
                    simpa [seenKM] using hsm
                  · by_cases e2 : j = k
                    · subst e2; rw [hu]; simpa using h3
                    · exact hno j hj (by omega)
                  · rw [hlast]
                    refine Le.mk [(0, some 0)] [0] ⟨rfl, rfl, rfl⟩ ?_ ?_ ?_ <;> simp [go_sem, netV, hp1, hp2, hp3, rsF, ints_pure]
                · simp (disch := omega) [go_sem]
                  intro hA
                  have := hA.2.2.1 u hmem
                  simp [this] at h3
              | cons y t =>
                rw [hM] at hlast
                simp (disch := omega) [go_sem, netV, subV, rsG, ints_len]
                refine callK_bool (r6has_spec u.sites u.critical) [] (by simp [go_sem, ints_pure]) (fun h3 => ?_) (fun h3 => ?_)
                · simp (disch := omega) [go_sem]
                  refine round_of (k + 1) ⟨by omega, ?_, fun j hj hjk => ?_⟩ (by omega) ?_
                  · rw [hsucc]
                    simpa [seenKM] using hsm
                  · by_cases e2 : j = k
                    · subst e2; rw [hu]; simpa using h3
                    · exact hno j hj (by omega)
                  · rw [hlast]
                    refine Le.mk [(0, some 0), (512, some 512)] [0, 512] ⟨rfl, rfl, rfl⟩ ?_ ?_ ?_ <;> simp [go_sem, netV, hp1, hp2, hp3, rsF, ints_pure]
                · simp (disch := omega) [go_sem]
                  intro hA
                  have := hA.2.2.1 u hmem
                  simp [this] at h3
        | cons x r =>
          simp (disch := omega) [go_sem, netV, rsF, h, he, subV]
          refine awz_loop mixed (fun m => rsG n u k m (seenKM n u k m)) (fun m => m ≤ u.sites.length ∧ seenOk n (seenKM n u k m)) (fun m => u.sites.length - m) 0 ⟨by omega, by rw [hz]; exact hs⟩ ?_ ?_
          · rw [hz, hL]
            refine Le.mk [(0, some 0), (512, some 512), (768, some 1184)] [0, 512, 1184] ⟨rfl, rfl, rfl⟩ ?_ ?_ ?_ <;> simp [go_sem, netV, subV, hp1, hp2, hp3, hp4, rsG, ints_pure]
          · rintro m ⟨hm, hsm⟩
            have hnm := nodup_len _ _ hsm.1 hsm.2
            by_cases h2 : m < u.sites.length
            · have e := seenKM_succ (n := n) (k := k) h2
              have good : u.sites[m] ∉ seenKM n u k m → (0 ≤ u.sites[m] ∧ u.sites[m] < n.sites.length) → seenOk n (seenKM n u k (m + 1)) := fun hn hrg => by
                rw [e]
                refine ⟨?_, fun x hx => ?_⟩
                · rw [List.nodup_append]
                  refine ⟨hsm.1, by simp, fun a ha b hb => ?_⟩
                  simp only [List.mem_singleton] at hb
                  subst hb
                  exact fun e => hn (e ▸ ha)
                · rcases List.mem_append.1 hx with hx | hx
                  · exact hsm.2 x hx
                  · simp only [List.mem_singleton] at hx
                    subst hx; exact hrg
              cases hM : seenKM n u k m with
              | nil =>
                simp (disch := omega) [go_sem, netV, subV, rsG, ints_len, h2, nth_ints]
                refine callK_bool (r6in_spec u.sites[m] 0 ((n.sites.length : Int) - 1)) [] (by simp [go_sem]) (fun h3 => ?_) (fun h3 => ?_)
                · rw [inN_iff] at h3
                  simp (disch := omega) [go_sem, ints_len, h2, nth_ints]
                  refine callK_bool (r6has_spec [] u.sites[m]) [] (by simp [go_sem, ints, ints_pure]) (fun h4 => ?_) (fun h4 => ?_)
                  · simp (disch := omega) [go_sem]
                    refine ⟨.inl (by kernel_rfl), fun hA => ?_⟩
                    obtain ⟨r2, hr2⟩ := hpre (m + 1)
                    have hx := hA.2.1
                    rw [hr2] at hx
                    have hx2 := (seenOk_prefix hx).1
                    rw [e, List.nodup_append, hM] at hx2
                    exact hx2.2.2 _ (of_decide_eq_true h4) _ (by simp) rfl
                  · have hg := good (by rw [hM]; exact of_decide_eq_false h4) ⟨h3.1, by omega⟩
                    simp (disch := omega) [go_sem, ints_len, h2, nth_ints]
                    refine ⟨.inl (by kernel_rfl), ?_⟩
                    refine round_of (m + 1) ⟨by omega, hg⟩ (by omega) ?_
                    simp only [e, hM, List.nil_append, List.cons_append]
                    refine Le.mk [(0, some 0), (512, some 2560), (768, some 768)] [0, 2560, 768] ⟨rfl, rfl, rfl⟩ ?_ ?_ ?_ <;> simp [go_sem, netV, subV, hp1, hp2, hp3, hp4, rsG, ints_pure, ints_app]
                    simp [ints, go_sem]
                · simp (disch := omega) [go_sem, ints_len, h2, nth_ints]
                  refine ⟨.inl (by kernel_rfl), fun hA => ?_⟩
                  obtain ⟨r2, hr2⟩ := hpre (m + 1)
                  have hx := hA.2.1
                  rw [hr2] at hx
                  have hx2 := (seenOk_prefix hx).2 u.sites[m] (by rw [e]; simp)
                  rw [inN_iff.2 ⟨hx2.1, by omega⟩] at h3
                  cases h3
              | cons y t =>
                have hty : t.length + 1 ≤ 12 := by rw [hM] at hnm; simp at hnm; omega
                simp (disch := omega) [go_sem, netV, subV, rsG, ints_len, h2, nth_ints]
                refine callK_bool (r6in_spec u.sites[m] 0 ((n.sites.length : Int) - 1)) [] (by simp [go_sem]) (fun h3 => ?_) (fun h3 => ?_)
                · rw [inN_iff] at h3
                  simp (disch := omega) [go_sem, ints_len, h2, nth_ints]
                  refine callK_bool (r6has_spec (y :: t) u.sites[m]) [512] (by simp [go_sem, ints_len]; exact argsLe_self (ints_pure (y :: t))) (fun h4 => ?_) (fun h4 => ?_)
                  · simp (disch := omega) [go_sem]
                    refine ⟨.inl (by kernel_rfl), fun hA => ?_⟩
                    obtain ⟨r2, hr2⟩ := hpre (m + 1)
                    have hx := hA.2.1
                    rw [hr2] at hx
                    have hx2 := (seenOk_prefix hx).1
                    rw [e, List.nodup_append, hM] at hx2
                    exact hx2.2.2 _ (of_decide_eq_true h4) _ (by simp) rfl
                  · have hg := good (by rw [hM]; exact of_decide_eq_false h4) ⟨h3.1, by omega⟩
                    simp (disch := omega) [go_sem, ints_len, h2, nth_ints]
                    refine ⟨.inl (by kernel_rfl), ?_⟩
                    refine ⟨by omega, ?_⟩
                    refine round_of (m + 1) ⟨by omega, hg⟩ (by omega) ?_
                    simp only [e, hM, List.nil_append, List.cons_append]
                    refine Le.mk [(0, some 0), (512, some 512), (768, some 768)] [0, 512, 768] ⟨rfl, rfl, rfl⟩ ?_ ?_ ?_ <;> simp [go_sem, netV, subV, hp1, hp2, hp3, hp4, rsG, ints_pure, ints_app]
                    rw [show ints (y :: (t ++ [u.sites[m]])) = ints (y :: t) ++ [.int .i64 u.sites[m]] by simp [ints]]
                    exact vsLe_self _ (pures_append.2 ⟨ints_pure _, by simp [go_sem]⟩)
                · simp (disch := omega) [go_sem, ints_len, h2, nth_ints]
                  refine ⟨.inl (by kernel_rfl), fun hA => ?_⟩
                  obtain ⟨r2, hr2⟩ := hpre (m + 1)
                  have hx := hA.2.1
                  rw [hr2] at hx
                  have hx2 := (seenOk_prefix hx).2 u.sites[m] (by rw [e]; simp)
                  rw [inN_iff.2 ⟨hx2.1, by omega⟩] at h3
                  cases h3
            · have hml : m = u.sites.length := by omega
              subst hml
              have hlast : seenK n (k + 1) = seenKM n u k u.sites.length := by rw [hsucc]; simp [seenKM]
              cases hM : seenKM n u k u.sites.length with
              | nil =>
                rw [hM] at hlast
                simp (disch := omega) [go_sem, netV, subV, rsG, ints_len]
                refine callK_bool (r6has_spec u.sites u.critical) [] (by simp [go_sem, ints_pure]) (fun h3 => ?_) (fun h3 => ?_)
                · simp (disch := omega) [go_sem]
                  refine round_of (k + 1) ⟨by omega, ?_, fun j hj hjk => ?_⟩ (by omega) ?_
                  · rw [hsucc]
                    simpa [seenKM] using hsm
                  · by_cases e2 : j = k
                    · subst e2; rw [hu]; simpa using h3
                    · exact hno j hj (by omega)
                  · rw [hlast]
                    refine Le.mk [(0, some 0)] [0] ⟨rfl, rfl, rfl⟩ ?_ ?_ ?_ <;> simp [go_sem, netV, hp1, hp2, hp3, rsF, ints_pure]
                · simp (disch := omega) [go_sem]
                  intro hA
                  have := hA.2.2.1 u hmem
                  simp [this] at h3
              | cons y t =>
                rw [hM] at hlast
                simp (disch := omega) [go_sem, netV, subV, rsG, ints_len]
                refine callK_bool (r6has_spec u.sites u.critical) [] (by simp [go_sem, ints_pure]) (fun h3 => ?_) (fun h3 => ?_)
                · simp (disch := omega) [go_sem]
                  refine round_of (k + 1) ⟨by omega, ?_, fun j hj hjk => ?_⟩ (by omega) ?_
                  · rw [hsucc]
                    simpa [seenKM] using hsm
                  · by_cases e2 : j = k
                    · subst e2; rw [hu]; simpa using h3
                    · exact hno j hj (by omega)
                  · rw [hlast]
                    refine Le.mk [(0, some 0), (512, some 512)] [0, 512] ⟨rfl, rfl, rfl⟩ ?_ ?_ ?_ <;> simp [go_sem, netV, hp1, hp2, hp3, rsF, ints_pure]
                · simp (disch := omega) [go_sem]
                  intro hA
                  have := hA.2.2.1 u hmem
                  simp [this] at h3
      · have hkl : k = n.subs.length := by omega
        subst hkl
        have fin : ∀ L : List Int, seenK n n.subs.length = L → ((L.length : Int) == n.sites.length) = decide (SubbedOk n) := fun L hL => by
          rw [Bool.eq_iff_iff, decide_eq_true_iff (p := SubbedOk n), beq_iff_eq]
          refine ⟨fun hc => ⟨by omega, hs, fun u hu => ?_, by rw [hL]; omega⟩, fun hc => by have := hc.2.2.2; rw [hL] at this; omega⟩
          obtain ⟨j, hj, rfl⟩ := List.getElem_of_mem hu
          exact hno j hj hj
        cases hL : seenK n n.subs.length with
        | nil =>
          have := fin [] hL
          simp (disch := omega) [go_sem, netV, rsF]
          simpa using this
        | cons y t =>
          have := fin (y :: t) hL
          simp (disch := omega) [go_sem, netV, rsF, ints_len]
          simpa using this
  · simp (disch := omega) [go_sem]
    intro hA
    rw [inN_iff.2 (by have := hA.1; omega)] at h1; cases h1

/-! The document's own answer on regions: Check. -/
theorem mem_ids {n : NetN} {k : Nat} (hk : k ≤ n.sites.length) {x : Int} : x ∈ idsN n k ↔ ∃ j, ∃ h : j < n.sites.length, j < k ∧ n.sites[j].id = x := by
  unfold idsN
  rw [List.mem_map]
  constructor
  · rintro ⟨w, hw, e⟩
    obtain ⟨j, hj, rfl⟩ := List.getElem_of_mem hw
    rw [List.length_take] at hj
    rw [List.getElem_take] at e
    exact ⟨j, by omega, by omega, e⟩
  · rintro ⟨j, h, hjk, rfl⟩
    exact ⟨n.sites[j], List.mem_take_iff_getElem.2 ⟨j, by omega, rfl⟩, rfl⟩
theorem idsN_nodup {n : NetN} {k : Nat} (hA : (idsN n n.sites.length).Nodup) (hk : k ≤ n.sites.length) : (idsN n k).Nodup := by
  have : idsN n k = (idsN n n.sites.length).take k := by
    unfold idsN
    rw [← List.map_take, List.take_take, Nat.min_eq_left hk]
  rw [this]
  exact hA.sublist (List.take_sublist _ _)

set_option maxHeartbeats 4000000 in
theorem r6check_spec (n : NetN) : FnD Tryz.prog 38 [netV n] (.int .i64 (netN n)) := by
  have hp1 := sits_pure n.sites
  have hp2 := subs_pure n.subs
  have hp3 := weds_pure n.weds
  have qs := fun h => rsubs_spec n h
  have qw := fun h => rweds_spec n h
  have hnv : netV n = .agg [.sl 12 (n.sites.map sitV), .sl 2 (n.subs.map subV), .sl 4 (n.weds.map wedV), .int .i64 n.low, .int .i64 n.high, .int .i64 n.step] := rfl
  rw [hnv] at qs qw ⊢
  refine fnD_of mixed Tryz.func38 rfl rfl (by simp [Tryz.ntmps38]) fun hwf E => ?_
  simp (disch := omega) [go_sem] at hwf
  simp (disch := omega) [Tryz.ntmps38, go_sem]
  have bad : ¬ NetOk n → netN n = 60 := netN_bad
  refine callK_bool (r6in_spec n.sites.length 1 12) [] (by simp [go_sem]) (fun h1 => ?_) (fun h1 => ?_)
  · rw [inN_iff] at h1
    simp (disch := omega) [go_sem]
    refine callK_bool (r6in_spec n.low 1 1048576) [] (by simp [go_sem]) (fun h2 => ?_) (fun h2 => ?_)
    · rw [inN_iff] at h2
      simp (disch := omega) [go_sem]
      refine callK_bool (r6in_spec n.high n.low 1048576) [] (by simp [go_sem]) (fun h3 => ?_) (fun h3 => ?_)
      · rw [inN_iff] at h3
        simp (disch := omega) [go_sem]
        refine callK_bool (r6in_spec n.step 1 1048576) [] (by simp [go_sem]) (fun h4 => ?_) (fun h4 => ?_)
        · rw [inN_iff] at h4
          have hq : (n.high - n.low).tdiv n.step = (n.high - n.low) / n.step := Int.tdiv_eq_ediv_of_nonneg (by omega)
          have hq0 : 0 ≤ (n.high - n.low) / n.step := Int.ediv_nonneg (by omega) (by omega)
          have hq1 : (n.high - n.low) / n.step ≤ n.high - n.low := Int.ediv_le_self _ (by omega)
          have hqw : IntKind.i64.wrap ((n.high - n.low).tdiv n.step) = (n.high - n.low).tdiv n.step := i64_wrap (by omega) (by omega)
          simp (disch := omega) [go_sem, hqw]
          refine ⟨by omega, fun _ => by omega, ?_⟩
          refine br_of (fun h5 => ?_) (fun h5 => ?_) <;> simp at h5
          · simp (disch := omega) [go_sem]
            refine (bad fun hA => ?_).symm
            have := hA.1.2.2.2
            rcases h5 with h5 | h5
            · exact h5 this.1
            · omega
          · have hT : TimedOk n := ⟨h2, h3, h4, h5⟩
            simp (disch := omega) [go_sem]
            refine awz_loop mixed (fun k : Nat => ⟨[(3, .int .i64 k), (1, .ptr 0 1 0 0), (2, .int .i64 0)], [(0, ⟨.box, 26, 6, [netV n]⟩)], 1024, [], 104, 0, []⟩)
              (sitedInv n) (fun k => n.sites.length - k) 0 ⟨by omega, by simp [idsN], fun j h hj => by omega⟩ ?_ ?_
            · refine Le.mk [(0, some 0)] [0] ⟨rfl, rfl, rfl⟩ ?_ ?_ ?_ <;> simp [go_sem, netV, hp1, hp2, hp3]
            · rintro k ⟨hk, hnd, hno⟩
              simp (disch := omega) [go_sem, netV]
              refine br_of (fun h => ?_) (fun h => ?_) <;> simp at h
              · have he : nth (n.sites.map sitV) k = sitV n.sites[k] := nth_map h
                have hc := rcheck_spec n.sites[k]
                have hsucc := idsN_succ h
                have badS : ¬ sitedAt n n.sites[k] → netN n = 60 := fun hb => bad fun hA => hb (hA.2.1.2.2 _ (List.getElem_mem h))
                have hsp := sit_pure n.sites[k]
                have hsv : sitV n.sites[k] = .agg [.int .i64 n.sites[k].id, .sl 3 (n.sites[k].groups.map grpV), .sl 1 (sets n.sites[k].apart), .sl 1 (rows n.sites[k].between), .sl 5 (n.sites[k].phases.map phaV), .sl 4 (n.sites[k].eyes.map eyeV), .int .i64 n.sites[k].watch, .int .i64 n.sites[k].feed, .int .i64 n.sites[k].heal, .int .i64 n.sites[k].low, .int .i64 n.sites[k].high, .sl 3 (n.sites[k].plans.map plnV)] := rfl
                rw [hsv] at hc
                simp (disch := omega) [go_sem, h, he, sitV]
                refine callK_data hc [] (by simp [go_sem, grps_pure, phas_pure, eyes_pure, plns_pure, sets_pure, rows_pure]) (.inl rfl) (by simp [go_sem]) (fun _ => ?_)
                by_cases hOk : SiteOk n.sites[k]
                · rw [checkN_ok hOk]
                  simp (disch := omega) [go_sem]
                  refine br_of (fun h6 => ?_) (fun h6 => ?_) <;> simp at h6
                  · simp (disch := omega) [go_sem]
                    exact (badS fun hb => by have := hb.2; omega).symm
                  · simp (disch := omega) [go_sem]
                    refine awz_loop mixed (fun m : Nat => ⟨[(5, .int .i64 m), (4, .ptr 512 1 0 0), (3, .int .i64 k), (1, .ptr 0 1 0 0), (2, .int .i64 0)], [(512, ⟨.box, 87, 12, [sitV n.sites[k]]⟩), (0, ⟨.box, 26, 6, [netV n]⟩)], 4096, [], 104, 0, []⟩)
                      (fun m => m ≤ k ∧ ∀ j (h : j < n.sites.length), j < m → n.sites[j].id ≠ n.sites[k].id) (fun m => k - m) 0 (by simp) ?_ ?_
                    · refine Le.mk [(0, some 0), (512, some 1184)] [0, 1184] ⟨rfl, rfl, rfl⟩ ?_ ?_ ?_ <;> simp [go_sem, netV, sitV, hp1, hp2, hp3, grps_pure, phas_pure, eyes_pure, plns_pure, sets_pure, rows_pure]
                    · rintro m ⟨hm, hmo⟩
                      simp (disch := omega) [go_sem, netV, sitV]
                      refine br_of (fun h7 => ?_) (fun h7 => ?_) <;> simp at h7
                      · have hml : m < n.sites.length := by omega
                        have he2 : nth (n.sites.map sitV) m = sitV n.sites[m] := nth_map hml
                        simp (disch := omega) [go_sem, hml, he2, sitV]
                        refine ⟨.inl (by kernel_rfl), ?_⟩
                        refine br_of (fun h8 => ?_) (fun h8 => ?_) <;> simp at h8
                        · simp (disch := omega) [go_sem]
                          refine (bad fun hA => ?_).symm
                          have hx := idsN_nodup hA.2.1.2.1 (show k + 1 ≤ n.sites.length by omega)
                          rw [hsucc, List.nodup_append] at hx
                          exact hx.2.2 _ ((mem_ids hk).2 ⟨m, hml, h7, h8⟩) _ (by simp) rfl
                        · simp (disch := omega) [go_sem]
                          refine round_of (m + 1) ⟨by omega, fun j hj hjm => ?_⟩ (by omega) (Le.mk [(0, some 0), (512, some 512)] [0, 512] ⟨rfl, rfl, rfl⟩ ?_ ?_ ?_)
                          · by_cases e : j = m
                            · subst e; exact h8
                            · exact hmo j hj (by omega)
                          all_goals simp [go_sem, netV, sitV, hp1, hp2, hp3, grps_pure, phas_pure, eyes_pure, plns_pure, sets_pure, rows_pure]
                      · have hmk : m = k := by omega
                        subst hmk
                        simp (disch := omega) [go_sem]
                        refine round_of (m + 1) ⟨by omega, ?_, fun j hj hjk => ?_⟩ (by omega) (Le.mk [(0, some 0)] [0] ⟨rfl, rfl, rfl⟩ ?_ ?_ ?_)
                        · rw [hsucc, List.nodup_append]
                          refine ⟨hnd, by simp, fun a ha b hb => ?_⟩
                          simp only [List.mem_singleton] at hb
                          subst hb
                          rintro rfl
                          obtain ⟨j, hj, hjr, ea⟩ := (mem_ids hk).1 ha
                          exact hmo j hj hjr ea
                        · by_cases e2 : j = m
                          · subst e2; exact ⟨hOk, by omega⟩
                          · exact hno j hj (by omega)
                        all_goals simp [go_sem, netV, hp1, hp2, hp3]
                · rw [checkN_bad hOk]
                  simp (disch := omega) [go_sem]
                  exact (badS fun hb => hOk hb.1).symm
              · have hkl : k = n.sites.length := by omega
                subst hkl
                have hS : SitedOk n := ⟨by omega, hnd, fun s hs => by
                  obtain ⟨j, hj, rfl⟩ := List.getElem_of_mem hs
                  exact hno j hj hj⟩
                simp (disch := omega) [go_sem]
                refine callK_bool (qs (by omega)) [] (by simp [go_sem, hp1, hp2, hp3]) (fun h6 => ?_) (fun h6 => ?_)
                · have hU : SubbedOk n := of_decide_eq_true h6
                  simp (disch := omega) [go_sem]
                  refine callK_bool (qw h2) [] (by simp [go_sem, hp1, hp2, hp3]) (fun h7 => ?_) (fun h7 => ?_)
                  · have hW : WeddedOk n := of_decide_eq_true h7
                    simp (disch := omega) [go_sem]
                    exact (netN_ok ⟨hT, hS, hU, hW⟩).symm
                  · simp (disch := omega) [go_sem]
                    exact (bad fun hA => of_decide_eq_false h7 hA.2.2.2).symm
                · simp (disch := omega) [go_sem]
                  exact (bad fun hA => of_decide_eq_false h6 hA.2.2.1).symm
        · simp (disch := omega) [go_sem]
          exact (bad fun hA => by have := hA.1.2.2.1; rw [← inN_iff, h4] at this; cases this).symm
      · simp (disch := omega) [go_sem]
        exact (bad fun hA => by have := hA.1.2.1; rw [← inN_iff, h3] at this; cases this).symm
    · simp (disch := omega) [go_sem]
      exact (bad fun hA => by have := hA.1.1; rw [← inN_iff, h2] at this; cases this).symm
  · simp (disch := omega) [go_sem]
    exact (bad fun hA => by have := hA.2.1.1; rw [inN_iff.2 (by omega)] at h1; cases h1).symm
end Go.Proofs.YtdeionjkcmpnpaaGreatDoor
