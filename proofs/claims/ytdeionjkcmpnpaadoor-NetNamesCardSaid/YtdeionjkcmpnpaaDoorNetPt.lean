
/- NetParts: the law. -/
import Derived.Test.YtdeionjkcmpnpaaDoorNetL
import Derived.Test.YtdeionjkcmpnpaaDoorAsk6
set_option linter.unusedSimpArgs false
set_option linter.unusedVariables false
namespace Go.Proofs.YtdeionjkcmpnpaaDoor
open Go.AM Go.RowKit
set_option maxRecDepth 100000

theorem subs_all {n : NetN} (h : NetOk n) : (n.subs.flatMap SubN.sites).Nodup ∧ (∀ x ∈ n.subs.flatMap SubN.sites, 0 ≤ x ∧ x < n.sites.length) ∧ (n.subs.flatMap SubN.sites).length = n.sites.length ∧ ∀ u ∈ n.subs, u.critical ∈ u.sites := by
  obtain ⟨h1, h2, h3, h4⟩ := h.2.2.1
  have eK : seenK n n.subs.length = n.subs.flatMap SubN.sites := by unfold seenK; rw [List.take_length]
  rw [eK] at h2 h4
  exact ⟨h2.1, h2.2, h4, h3⟩
theorem subs_in {n : NetN} (h : NetOk n) {i : Nat} (hi : i < n.sites.length) : ∃ k, ∃ hk : k < n.subs.length, (i : Int) ∈ n.subs[k].sites := by
  obtain ⟨h1, h2, h3, _⟩ := subs_all h
  have hm : (i : Int) ∈ n.subs.flatMap SubN.sites := Classical.byContradiction fun hn => by
    have := nodup_len n.sites.length ((i : Int) :: n.subs.flatMap SubN.sites) (List.nodup_cons.2 ⟨hn, h1⟩) (fun x hx => by
      rcases List.mem_cons.1 hx with rfl | hx
      · omega
      · exact h2 x hx)
    simp only [List.length_cons] at this
    omega
  obtain ⟨u, hu, hx⟩ := List.mem_flatMap.1 hm
  obtain ⟨k, hk, rfl⟩ := List.getElem_of_mem hu
  exact ⟨k, hk, hx⟩
theorem subs_one {n : NetN} (h : NetOk n) {j k : Nat} (hj : j < n.subs.length) (hk : k < n.subs.length) {x : Int} (h1 : x ∈ n.subs[j].sites) (h2 : x ∈ n.subs[k].sites) : j = k := by
  have hp := (subs_all h).1
  unfold List.Nodup at hp
  rw [List.pairwise_flatMap] at hp
  have := List.pairwise_iff_getElem.1 hp.2
  by_cases e : j = k
  · exact e
  · rcases Nat.lt_or_gt_of_ne e with hl | hl
    · exact absurd rfl (this j k hj hk hl x h1 x h2)
    · exact absurd rfl (this k j hk hj hl x h2 x h1)
theorem subs_nodup {n : NetN} (h : NetOk n) {k : Nat} (hk : k < n.subs.length) : n.subs[k].sites.Nodup := by
  have hp := (subs_all h).1
  unfold List.Nodup at hp
  rw [List.pairwise_flatMap] at hp
  exact hp.1 _ (List.getElem_mem hk)
theorem subN_at {n : NetN} (h : NetOk n) {k : Nat} (hk : k < n.subs.length) {x : Int} (hx : x ∈ n.subs[k].sites) : subN n x = k := by
  have : n.subs.findIdx? (fun u => decide (x ∈ u.sites)) = some k := by
    rw [List.findIdx?_eq_some_iff_getElem]
    refine ⟨hk, by simpa using hx, fun j hj => ?_⟩
    have hne : ¬ x ∈ n.subs[j].sites := fun e => by have := subs_one h (by omega) hk e hx; omega
    simpa using hne
  simp [subN, findA, this]
theorem placeS_at {n : NetN} (h : NetOk n) {i : Nat} (hi : i < n.sites.length) : placeS n n.sites[i].id = i := by
  have hnd := h.2.1.2.1
  have : n.sites.findIdx? (fun s => s.id == n.sites[i].id) = some i := by
    rw [List.findIdx?_eq_some_iff_getElem]
    refine ⟨hi, by simp, fun j hj => ?_⟩
    have hp := List.pairwise_iff_getElem.1 hnd j i (by rw [idsN_len (Nat.le_refl _)]; omega) (by rw [idsN_len (Nat.le_refl _)]; exact hi) hj
    simp only [idsN, List.take_length, List.getElem_map] at hp
    simpa using hp
  simp [placeS, findA, this]
def cntK (l : List Int) (x : Int) (k : Nat) : Nat := (l.take k).count x
theorem cntK_succ {l : List Int} {x : Int} {k : Nat} (h : k < l.length) : cntK l x (k + 1) = cntK l x k + (if l[k] = x then 1 else 0) := by
  unfold cntK
  rw [List.take_succ_eq_append_getElem h, List.count_append]
  simp [List.count_cons]
theorem cnt_sub {n : NetN} (h : NetOk n) {k u : Nat} (hk : k < n.subs.length) (hu : u < n.subs.length) {x : Int} (hx : x ∈ n.subs[u].sites) : cntK n.subs[k].sites x n.subs[k].sites.length = if k = u then 1 else 0 := by
  unfold cntK
  rw [List.take_length]
  by_cases e : k = u
  · subst e
    rw [if_pos rfl]
    have h1 := List.nodup_iff_count.1 (subs_nodup h hk) x
    have h2 := List.count_pos_iff.2 hx
    omega
  · rw [if_neg e]
    exact List.count_eq_zero.2 fun hm => e (subs_one h hk hu hm hx)
set_option maxHeartbeats 4000000 in
theorem nparts_spec (n : NetN) : FnD Tryd.prog 8 [netV n] (.bool true) tabG := by
  have hnv : netV n = .agg [.sl 12 (n.sites.map sitV), .sl 2 (n.subs.map subV), .sl 4 (n.weds.map wedV), .int .i64 n.low, .int .i64 n.high, .int .i64 n.step] := rfl
  have qg := greatN_spec n
  have c1 := fun h => ncheck_good (n := n) h
  have c2 := fun h => ncheck_nogood (n := n) h
  have qs := fun x => nsub_spec n x
  have qt := fun x => nsite_spec n x
  rw [hnv] at qg c1 c2 ⊢
  simp only [hnv] at qs qt
  refine fnD_of mixed Tryd.func8 rfl rfl (by simp [Tryd.ntmps8]) fun hwf E => ?_
  simp (disch := omega) [go_sem] at hwf
  simp (disch := omega) [Tryd.ntmps8, go_sem]
  refine callK_data alive6_spec [] (by simp [go_sem]) (.inl rfl) (by simp [go_sem]) (fun _ => ?_) (by simp [tabG, go_sem])
  simp (disch := omega) [go_sem]
  refine callK_bool qg [] (by simp [go_sem]) (fun h1 => ?_) (fun h1 => ?_) <;> try simp [inN] at h1
  · simp (disch := omega) [go_sem]
  · simp (disch := omega) [go_sem]
    by_cases hk : NetOk n
    · refine callK_data (c1 hk) [] (by simp [go_sem]) (.inl rfl) (by simp [go_sem]) (fun _ => ?_) (by simp [tabG, go_sem])
      simp (disch := omega) [go_sem]
      obtain ⟨b2, b3⟩ : n.subs.length ≤ 6 ∧ n.sites.length ≤ 12 := ⟨hk.2.2.1.1.2, hk.2.1.1.2⟩
      have qs' : ∀ (x : Int) (k : Nat), subN n x = k → FnD Tryd.prog 45 [netV n, .int .i64 x] (.tup [.int .i64 (k : Int), .int .i64 0]) tabG := fun x k e => by
        have := qs x
        rw [e, if_pos ⟨hk, by omega⟩, if_pos hk, if_pos (by omega)] at this
        exact this
      have qt' : ∀ (x : Int) (k : Nat), placeS n x = k → FnD Tryd.prog 46 [netV n, .int .i64 x] (.tup [.int .i64 (k : Int), .int .i64 0]) tabG := fun x k e => by
        have := qt x
        rw [e, if_pos ⟨hk, by omega⟩, if_pos hk, if_pos (by omega)] at this
        exact this
      rw [hnv] at qs' qt'
      clear qs qt
      refine awz_loop mixed (fun k : Nat => ⟨[(4, .int .i64 k), (3, .bool true), (1, .ptr 0 1 0 0)], [(0, ⟨.box, 77, 6, [netV n]⟩)], 1024, [], 145, 0, tabG⟩) (fun k => k ≤ n.sites.length) (fun k => n.sites.length - k) 0 ?_ ?_ ?_
      · omega
      · refine Le.mk [(0, some 0)] [0] ⟨rfl, rfl, rfl⟩ ?_ ?_ ?_ <;> simp [go_sem, netV]
      · intro i hi
        simp (disch := omega) [go_sem, netV]
        refine br_of (fun h2 => ?_) (fun h2 => ?_) <;> simp at h2
        · obtain ⟨u, hu, hx⟩ := subs_in hk h2
          have q1 := qs' i u (subN_at hk hu hx)
          have q2 := qt' _ i (placeS_at hk h2)
          have hsi : sitV n.sites[i] = .agg [.int .i64 n.sites[i].id, .sl 3 (n.sites[i].groups.map grpV), .sl 1 (sets n.sites[i].apart), .sl 1 (rows n.sites[i].between), .sl 5 (n.sites[i].phases.map phaV), .sl 4 (n.sites[i].eyes.map eyeV), .int .i64 n.sites[i].watch, .int .i64 n.sites[i].feed, .int .i64 n.sites[i].heal, .int .i64 n.sites[i].low, .int .i64 n.sites[i].high, .sl 3 (n.sites[i].plans.map plnV)] := rfl
          have hg : nth (n.sites.map sitV) i = sitV n.sites[i] := nth_map h2
          rw [hsi] at hg
          clear hsi
          generalize n.sites[i] = s at *
          simp (disch := omega) [go_sem]
          refine callK_data q1 [] (by simp [go_sem]) (.inl rfl) (by simp [go_sem]) (fun _ => ?_) (by simp [tabG, go_sem])
          simp (disch := omega) [go_sem, hg, h2]
          refine callK_data q2 [] (by simp [go_sem]) (.inl rfl) (by simp [go_sem]) (fun _ => ?_) (by simp [tabG, go_sem])
          simp (disch := omega) [go_sem]
          refine ⟨.inl (by kernel_rfl), ?_⟩
          refine br_of (fun h9 => ?_) (fun h9 => ?_) <;> simp at h9
          · omega
          · simp (disch := omega) [go_sem]
            refine awz_loop mixed (fun k : Nat => ⟨[(9, .int .i64 k), (5, .int .i64 u), (4, .int .i64 i), (3, .bool true), (1, .ptr 0 1 0 0)], [(0, ⟨.box, 77, 6, [netV n]⟩)], 2048, [], 145, 0, tabG⟩) (fun k => k ≤ n.subs.length) (fun k => n.subs.length - k) 0 ?_ ?_ ?_
            · omega
            · refine Le.mk [(0, some 0)] [0] ⟨rfl, rfl, rfl⟩ ?_ ?_ ?_ <;> simp [go_sem, netV]
            · intro k hkk
              simp (disch := omega) [go_sem, netV]
              refine br_of (fun h3 => ?_) (fun h3 => ?_) <;> simp at h3
              · have hgu : nth (n.subs.map subV) k = subV n.subs[k] := nth_map h3
                have hc := cnt_sub hk h3 hu hx
                have hwl : n.subs[k].sites.length ≤ 12 := (hk.written.us _ (List.getElem_mem h3)).1
                generalize n.subs[k] = sk at *
                obtain ⟨l, cr⟩ := sk
                simp only at hc hwl
                rw [show subV ⟨l, cr⟩ = .agg [.sl 1 (ints l), .int .i64 cr] from rfl] at hgu
                simp (disch := omega) [go_sem]
                refine awz_loop mixed (fun m : Nat => ⟨[(11, .int .i64 m), (10, .int .i64 (cntK l i m : Nat)), (9, .int .i64 k), (5, .int .i64 u), (4, .int .i64 i), (3, .bool true), (1, .ptr 0 1 0 0)], [(0, ⟨.box, 77, 6, [netV n]⟩)], 4096, [], 145, 0, tabG⟩) (fun m => m ≤ l.length) (fun m => l.length - m) 0 ?_ ?_ ?_
                · omega
                · have h0 : cntK l (i : Int) 0 = 0 := by simp [cntK]
                  refine Le.mk [(0, some 0)] [0] ⟨rfl, rfl, rfl⟩ ?_ ?_ ?_ <;> simp [go_sem, netV, h0]
                · intro m hm
                  have hcl : cntK l (i : Int) m ≤ m := by
                    unfold cntK
                    exact Nat.le_trans List.count_le_length (by rw [List.length_take]; omega)
                  simp (disch := omega) [go_sem, netV, hgu, h3]
                  refine br_of (fun h4 => ?_) (fun h4 => ?_) <;> simp at h4
                  · have hcs := cntK_succ (x := (i : Int)) h4
                    have hnl := nth_ints h4
                    generalize l[m] = y at *
                    simp (disch := omega) [go_sem, hgu, h3, hnl, h4]
                    refine br_of (fun h5 => ?_) (fun h5 => ?_) <;> simp at h5
                    · rw [if_pos h5] at hcs
                      simp (disch := omega) [go_sem]
                      refine round_of (m + 1) (by omega) (by omega) (Le.mk [(0, some 0)] [0] ⟨rfl, rfl, rfl⟩ ?_ ?_ ?_) <;> simp [go_sem, netV, hcs]
                    · rw [if_neg h5] at hcs
                      simp (disch := omega) [go_sem]
                      refine round_of (m + 1) (by omega) (by omega) (Le.mk [(0, some 0)] [0] ⟨rfl, rfl, rfl⟩ ?_ ?_ ?_) <;> simp [go_sem, netV, hcs]
                  · have hml : m = l.length := by omega
                    subst hml
                    rw [hc]
                    by_cases hku : k = u
                    · subst hku
                      simp (disch := omega) [go_sem]
                      refine round_of (k + 1) (by omega) (by omega) (Le.mk [(0, some 0)] [0] ⟨rfl, rfl, rfl⟩ ?_ ?_ ?_) <;> simp [go_sem, netV]
                    · have hku2 : ((k : Int) == u) = false := by simp; omega
                      simp (disch := omega) [go_sem, hku, hku2]
                      refine round_of (k + 1) (by omega) (by omega) (Le.mk [(0, some 0)] [0] ⟨rfl, rfl, rfl⟩ ?_ ?_ ?_) <;> simp [go_sem, netV]
              · simp (disch := omega) [go_sem]
                refine round_of (i + 1) (by omega) (by omega) (Le.mk [(0, some 0)] [0] ⟨rfl, rfl, rfl⟩ ?_ ?_ ?_) <;> simp [go_sem, netV]
        · simp (disch := omega) [go_sem]
          refine awz_loop mixed (fun k : Nat => ⟨[(12, .int .i64 k), (3, .bool true), (1, .ptr 0 1 0 0)], [(0, ⟨.box, 77, 6, [netV n]⟩)], 2048, [], 145, 0, tabG⟩) (fun k => k ≤ n.subs.length) (fun k => n.subs.length - k) 0 ?_ ?_ ?_
          · omega
          · refine Le.mk [(0, some 0)] [0] ⟨rfl, rfl, rfl⟩ ?_ ?_ ?_ <;> simp [go_sem, netV]
          · intro k hkk
            simp (disch := omega) [go_sem, netV]
            refine br_of (fun h3 => ?_) (fun h3 => ?_) <;> simp at h3
            · have hgu : nth (n.subs.map subV) k = subV n.subs[k] := nth_map h3
              have hcr := (subs_all hk).2.2.2 _ (List.getElem_mem h3)
              have q1 := qs' n.subs[k].critical k (subN_at hk h3 hcr)
              generalize n.subs[k] = sk at *
              obtain ⟨l, cr⟩ := sk
              rw [show subV ⟨l, cr⟩ = .agg [.sl 1 (ints l), .int .i64 cr] from rfl] at hgu
              simp only at q1
              simp (disch := omega) [go_sem, hgu, h3]
              refine callK_data q1 [] (by simp [go_sem]) (.inl rfl) (by simp [go_sem]) (fun _ => ?_) (by simp [tabG, go_sem])
              simp (disch := omega) [go_sem]
              refine ⟨.inl (by kernel_rfl), ?_⟩
              refine round_of (k + 1) (by omega) (by omega) (Le.mk [(0, some 0)] [0] ⟨rfl, rfl, rfl⟩ ?_ ?_ ?_) <;> simp [go_sem, netV]
            · simp (disch := omega) [go_sem]
    · refine callK_data ((c2 hk)) [] (by simp [go_sem]) (.inl rfl) (by simp [go_sem]) (fun _ => ?_) (by simp [tabG, go_sem])
      simp (disch := omega) [go_sem]
end Go.Proofs.YtdeionjkcmpnpaaDoor
