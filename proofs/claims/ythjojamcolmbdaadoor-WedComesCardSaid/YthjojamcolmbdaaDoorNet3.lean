/- The layer net: subs. -/
import Derived.Test.YthjojamcolmbdaaDoorNet2
namespace Go.Proofs.YthjojamcolmbdaaDoor
open Go.AM Go.RowKit
set_option maxRecDepth 100000

theorem wfs_mem {α : Type} {f : α → V} : ∀ {l : List α}, wfs (l.map f) → ∀ x ∈ l, (f x).wf
  | y :: l, h, x, hx => by
    simp only [List.map_cons, wfs] at h
    rcases List.mem_cons.1 hx with rfl | hx
    · exact h.1
    · exact wfs_mem h.2 x hx
theorem nodup_len : ∀ (N : Nat) (l : List Int), l.Nodup → (∀ x ∈ l, 0 ≤ x ∧ x < N) → l.length ≤ N
  | 0, [], _, _ => by simp
  | 0, x :: l, _, h => by have := h x (by simp); omega
  | N + 1, l, hn, h => by
    have e : (l.erase (N : Int)).length ≤ N := nodup_len N _ (hn.erase _) fun x hx => by
      have h1 := (List.Nodup.mem_erase_iff hn).1 hx
      have h2 := h x h1.2
      have h3 := h1.1
      omega
    by_cases hm : (N : Int) ∈ l
    · rw [List.length_erase_of_mem hm] at e; omega
    · rw [List.erase_of_not_mem hm] at e; omega

def seenK (n : NetN) (k : Nat) : List Int := (n.subs.take k).flatMap SubN.sites
theorem seenK_succ {n : NetN} {k : Nat} (h : k < n.subs.length) : seenK n (k + 1) = seenK n k ++ n.subs[k].sites := by
  unfold seenK
  rw [List.take_succ_eq_append_getElem h, List.flatMap_append]; simp
def seenKM (n : NetN) (u : SubN) (k m : Nat) : List Int := seenK n k ++ u.sites.take m
theorem seenKM_succ {n : NetN} {u : SubN} {k m : Nat} (h : m < u.sites.length) : seenKM n u k (m + 1) = seenKM n u k m ++ [u.sites[m]] := by
  unfold seenKM
  rw [List.take_succ_eq_append_getElem h, List.append_assoc]
def rangeOk (n : NetN) (l : List Int) : Prop := ∀ x ∈ l, 0 ≤ x ∧ x < n.sites.length
def seenOk (n : NetN) (l : List Int) : Prop := l.Nodup ∧ rangeOk n l
def SubbedOk (n : NetN) : Prop := (1 ≤ n.subs.length ∧ n.subs.length ≤ 6) ∧ seenOk n (seenK n n.subs.length) ∧ (∀ u ∈ n.subs, u.critical ∈ u.sites) ∧ (seenK n n.subs.length).length = n.sites.length
noncomputable instance (n : NetN) : Decidable (SubbedOk n) := Classical.propDecidable _
theorem seenOk_prefix {n : NetN} {l r : List Int} (h : seenOk n (l ++ r)) : seenOk n l :=
  ⟨(List.nodup_append.1 h.1).1, fun x hx => h.2 x (by simp [hx])⟩
theorem seenK_pre (n : NetN) (k : Nat) (u : SubN) (hk : k < n.subs.length) (hu : n.subs[k] = u) (m : Nat) : ∃ r, seenK n n.subs.length = seenKM n u k m ++ r := by
  subst hu
  refine ⟨n.subs[k].sites.drop m ++ (n.subs.drop (k + 1)).flatMap SubN.sites, ?_⟩
  have e : n.subs.take n.subs.length = n.subs.take k ++ n.subs[k] :: n.subs.drop (k + 1) := by
    rw [List.take_length]
    conv => lhs; rw [← List.take_append_drop k n.subs, List.drop_eq_getElem_cons hk]
  unfold seenK seenKM
  rw [e, List.flatMap_append, List.flatMap_cons]
  unfold seenK
  rw [List.append_assoc, ← List.append_assoc (n.subs[k].sites.take m), List.take_append_drop]

def subInv (n : NetN) (k : Nat) : Prop := k ≤ n.subs.length ∧ seenOk n (seenK n k) ∧ ∀ j (h : j < n.subs.length), j < k → n.subs[j].critical ∈ n.subs[j].sites

set_option maxHeartbeats 2000000 in
theorem subbed_spec (n : NetN) : FnD Tryd.prog 102 [netV n] (.bool (decide (SubbedOk n))) := by
  have hp1 := sits_pure n.sites
  have hp2 := subs_pure n.subs
  have hp3 := weds_pure n.weds
  unfold netV
  refine fnD_of mixed Tryd.func102 rfl rfl (by simp [Tryd.ntmps102]) fun hwf E => ?_
  simp (disch := omega) [go_sem] at hwf
  simp (disch := omega) [Tryd.ntmps102, go_sem]
  refine awz_loop mixed (fun k : Nat => ⟨[(12, .int .i64 k), (11, .int .i64 n.subs.length), (10, .sl 2 (n.subs.map subV)), (3, .mp 32), (1, .ptr 0 1 0 0), (2, .bool false)], [(32, ⟨.map, 154, 1, marks (seenK n k)⟩), (0, ⟨.box, 59, 6, [netV n]⟩)], 1024, [], 57, 0, []⟩)
    (subInv n) (fun k => n.subs.length - k) 0 ⟨by omega, by simp [seenK, seenOk, rangeOk], fun j h hj => by omega⟩ ?_ ?_
  · refine Le.mk [(0, some 0), (32, some 32)] [0, 32] ⟨rfl, rfl, rfl⟩ ?_ ?_ ?_ <;> simp [go_sem, netV, hp1, hp2, hp3, seenK, marks]
  · rintro k ⟨hk, hs, hno⟩
    simp (disch := omega) [go_sem, netV]
    refine br_of (fun h => ?_) (fun h => ?_) <;> simp at h
    · have he : nth (n.subs.map subV) k = subV n.subs[k] := nth_map h
      have hnok := fun j hj hjk => hno j hj hjk
      have hcrit : n.subs[k].critical ∈ n.subs[k].sites ∨ ¬ n.subs[k].critical ∈ n.subs[k].sites := Classical.em _
      have hpre := seenK_pre n k n.subs[k] h rfl
      have hsucc := seenK_succ h
      have hmem : n.subs[k] ∈ n.subs := List.getElem_mem h
      have hull : n.subs[k].sites.length ≤ 140737488355328 := by
        have := wfs_mem hwf.2.1.2 _ hmem
        simp [subV, go_sem, ints_len] at this
        omega
      simp (disch := omega) [go_sem, h, he, subV, ints_len]
      generalize hu : n.subs[k] = u at *
      have hp4 := ints_pure u.sites
      refine awz_loop mixed (fun m : Nat => ⟨[(19, .int .i64 m), (18, .int .i64 u.sites.length), (17, .sl 1 (ints u.sites)), (5, .ptr 512 1 0 0), (12, .int .i64 k), (11, .int .i64 n.subs.length), (10, .sl 2 (n.subs.map subV)), (3, .mp 32), (1, .ptr 0 1 0 0), (2, .bool false)], [(512, ⟨.box, 123, 2, [subV u]⟩), (32, ⟨.map, 154, 1, marks (seenKM n u k m)⟩), (0, ⟨.box, 59, 6, [netV n]⟩)], 2048, [], 57, 0, []⟩)
        (fun m => m ≤ u.sites.length ∧ seenOk n (seenKM n u k m)) (fun m => u.sites.length - m) 0 ⟨by omega, by simpa [seenKM] using hs⟩ ?_ ?_
      · refine Le.mk [(0, some 0), (32, some 32), (512, some 1072)] [0, 32, 1072] ⟨rfl, rfl, rfl⟩ ?_ ?_ ?_ <;> simp [go_sem, netV, subV, hp1, hp2, hp3, hp4, seenKM, marks_pure]
      · rintro m ⟨hm, hsm⟩
        simp (disch := omega) [go_sem, netV, subV]
        refine br_of (fun h2 => ?_) (fun h2 => ?_) <;> simp at h2
        · simp (disch := omega) [go_sem, h2, nth_ints, ints_len, netV, subV]
          refine callK_bool (nin_spec u.sites[m] 0 ((n.sites.length : Int) - 1)) [] (by simp [go_sem]) (fun h3 => ?_) (fun h3 => ?_)
          · simp (disch := omega) [go_sem, mfind_marks, markV_get]
            refine br_of (fun h4 => ?_) (fun h4 => ?_) <;> simp at h4
            · simp (disch := omega) [go_sem]
              intro hA
              obtain ⟨r, hr⟩ := hpre (m + 1)
              have hx := hA.2.1
              rw [hr] at hx
              have hx2 := (seenOk_prefix hx).1
              rw [seenKM_succ h2, List.nodup_append] at hx2
              exact hx2.2.2 _ h4 _ (by simp) rfl
            · have hm2 := mput_marks _ _ h4
              have e := seenKM_succ (n := n) (k := k) h2
              rw [inN_iff] at h3
              have hsm2 : seenOk n (seenKM n u k (m + 1)) := by
                rw [e]
                refine ⟨?_, fun x hx => ?_⟩
                · rw [List.nodup_append]
                  refine ⟨hsm.1, by simp, fun a ha b hb => ?_⟩
                  simp only [List.mem_singleton] at hb
                  subst hb
                  exact fun e => h4 (e ▸ ha)
                · rcases List.mem_append.1 hx with hx | hx
                  · exact hsm.2 x hx
                  · simp only [List.mem_singleton] at hx
                    subst hx; omega
              have hl := nodup_len _ _ hsm2.1 hsm2.2
              rw [e, List.length_append] at hl
              simp only [List.length_cons, List.length_nil] at hl
              simp (disch := omega) [go_sem, hm2, marks_len]
              refine ⟨by omega, ?_⟩
              refine round_of (m + 1) ⟨by omega, ?_⟩ (by omega) (Le.mk [(0, some 0), (32, some 32), (512, some 512)] [0, 32, 512] ⟨rfl, rfl, rfl⟩ ?_ ?_ ?_)
              · exact hsm2
              all_goals simp [go_sem, netV, subV, hp1, hp2, hp3, hp4, e, marks_pure]
          · simp (disch := omega) [go_sem]
            intro hA
            obtain ⟨r, hr⟩ := hpre (m + 1)
            have hx := hA.2.1
            rw [hr] at hx
            have hx2 := (seenOk_prefix hx).2 u.sites[m] (by rw [seenKM_succ h2]; simp)
            rw [inN_iff.2 ⟨hx2.1, by omega⟩] at h3
            cases h3
        · have hml : m = u.sites.length := by omega
          subst hml
          simp (disch := omega) [go_sem, netV, subV]
          refine callK_bool (contains_spec u.sites u.critical) [] (by simp [go_sem, ints_pure]) (fun h3 => ?_) (fun h3 => ?_)
          · simp (disch := omega) [go_sem]
            refine round_of (k + 1) ⟨by omega, ?_, fun j hj hjk => ?_⟩ (by omega) (Le.mk [(0, some 0), (32, some 32)] [0, 32] ⟨rfl, rfl, rfl⟩ ?_ ?_ ?_)
            · rw [hsucc]
              simpa [seenKM] using hsm
            · by_cases e2 : j = k
              · subst e2; rw [hu]; simpa using h3
              · exact hno j hj (by omega)
            all_goals simp [go_sem, netV, hp1, hp2, hp3, hsucc, marks_pure, seenKM]
          · simp (disch := omega) [go_sem]
            intro hA
            have := hA.2.2.1 u hmem
            simp [this] at h3
    · have hkl : k = n.subs.length := by omega
      subst hkl
      simp (disch := omega) [go_sem]
      refine callK_bool (nin_spec n.subs.length 1 6) [] (by simp [go_sem]) (fun h1 => ?_) (fun h1 => ?_)
      · simp (disch := omega) [go_sem, marks_len]
        rw [inN_iff] at h1
        rw [Bool.eq_iff_iff, decide_eq_true_iff (p := SubbedOk n)]
        simp only [beq_iff_eq]
        refine ⟨fun hc => ⟨by omega, hs, fun u hu => ?_, by omega⟩, fun hc => by have := hc.2.2.2; omega⟩
        obtain ⟨j, hj, rfl⟩ := List.getElem_of_mem hu
        exact hno j hj hj
      · simp (disch := omega) [go_sem]
        intro hA
        rw [inN_iff.2 (by have := hA.1; omega)] at h1
        cases h1
end Go.Proofs.YthjojamcolmbdaaDoor
