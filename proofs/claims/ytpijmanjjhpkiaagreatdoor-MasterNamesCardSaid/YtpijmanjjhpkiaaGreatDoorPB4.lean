/- Contracts and laws beneath the statement, in build order. -/
import Derived.Test.YtpijmanjjhpkiaaGreatDoorPB3
set_option linter.unusedSimpArgs false
set_option linter.unusedVariables false
namespace Go.Proofs.YtpijmanjjhpkiaaGreatDoor
open Go.AM Go.RowKit
set_option maxRecDepth 100000

def hmX : Nat → Int
  | 0 => 0
  | k + 1 => mixN (hmX k) 65536
def hmK (k : Nat) : Mas := { startM regionN with loads := [[hmX k, 0], [0, 0]] }
theorem place0 : placeS regionN 0 = (0 : Nat) := by decide
theorem place9 : placeS regionN 9 = -1 := by decide
theorem hm_zero : hmK 0 = startM regionN := rfl
theorem hm_next {k : Nat} (h : MasOk regionN (hmK k)) : hearC regionN (hmK k) 0 [65536, 0] = 0 ∧ hearM regionN (hmK k) 0 [65536, 0] = hmK (k + 1) := by
  have hC := hearC_ok (l := [65536, 0]) (masC_ok regionN_ok h) place0 rfl (by decide)
  exact ⟨hC, by rw [hearM_ok hC place0]; rfl⟩
theorem hm_ok : ∀ k, MasOk regionN (hmK k)
  | 0 => (start_ok regionN_ok).ok
  | k + 1 => by
    obtain ⟨h1, h2⟩ := hm_next (hm_ok k)
    rw [← h2]; exact hearM_keep regionN_ok (hm_ok k) h1
theorem hm_three : hmX 3 = 37888 := by decide
noncomputable def bmK : Nat → Mas
  | 0 => hmK 3
  | k + 1 => beM5 regionN (bmK k)
theorem bm_ok : ∀ k, MasOk regionN (bmK k)
  | 0 => hm_ok 3
  | k + 1 => beM5_ok regionN_ok (bm_ok k)
theorem bm_loads : ∀ k, (bmK k).loads = [[37888, 0], [0, 0]]
  | 0 => by show [[hmX 3, 0], [0, 0]] = _; rw [hm_three]
  | k + 1 => bm_loads k
theorem bm_step {m : Mas} (hm : MasOk regionN m) (hl : m.loads = [[37888, 0], [0, 0]]) {v w : Int × Int × Int} (hc : m.cycles = [v, w]) (hv : v.1 = 8) (hw : w.1 = 8) :
    (beM5 regionN m).cycles = [heardN 8 v.2.1 v.2.2 12 3, (8, 8, 0)] := by
  have e : (beM5 regionN m).cycles = mapK (votF regionN m) m.cycles m.cycles.length := rfl
  obtain ⟨_, hC, _, _⟩ := hm
  have h0 := hC 0 (by rw [hc]; simp)
  have h1 := hC 1 (by rw [hc]; simp)
  simp only [hc, List.getElem_cons_zero, List.getElem_cons_succ] at h0 h1
  have c0 : critN regionN m 0 = [37888, 0] := by unfold critN; rw [hl]; rfl
  have c1 : critN regionN m 1 = [0, 0] := by unfold critN; rw [hl]; rfl
  have x0 : highX [37888, 0] = 37888 := by decide
  have x1 : highX [0, 0] = 0 := by decide
  have t0 : towards 8 (wishN regionN 37888) regionN.step = 12 := by decide
  have t1 : towards 8 (wishN regionN 0) regionN.step = 8 := by decide
  have n0 := (nextV_keep (load := 37888) regionN_ok h0.1 h0.2 (by omega)).1
  have n1 := (nextV_keep (load := 0) regionN_ok h1.1 h1.2 (by omega)).1
  rw [hv, t0] at n0
  rw [hw, t1, heardN_eq rfl] at n1
  rw [e, hc, mapK_all]
  show [votF regionN m 0 v, votF regionN m 1 w] = _
  unfold votF
  rw [c0, c1, x0, x1, n0, n1]
theorem bm_three : (bmK 3).cycles = [(12, 12, 0), (8, 8, 0)] := by
  have e1 : (bmK 1).cycles = [(8, 12, 1), (8, 8, 0)] := by
    have := bm_step (m := bmK 0) (v := (8, 8, 0)) (w := (8, 8, 0)) (bm_ok 0) (bm_loads 0) rfl rfl rfl
    exact this.trans (by decide)
  have e2 : (bmK 2).cycles = [(8, 12, 2), (8, 8, 0)] := by
    have := bm_step (m := bmK 1) (bm_ok 1) (bm_loads 1) e1 rfl rfl
    exact this.trans (by decide)
  have := bm_step (m := bmK 2) (bm_ok 2) (bm_loads 2) e2 rfl rfl
  exact this.trans (by decide)
def zeroN0 : NetN := ⟨[], [], [], 0, 0, 0⟩
theorem zeroN0_bad : ¬ NetOk zeroN0 := fun h => by have := h.2.1.1.1; simp [zeroN0] at this
theorem zeroM_bad : masC regionN zeroM = 8 := masC_bad regionN_ok fun h => by have := h.1.1; simp [zeroM, regionN] at this
set_option maxHeartbeats 8000000 in
theorem mnames_spec : FnD Tryz.prog 4 [] (.bool true) tabG := by
  have hr := region29_spec
  have ha := alive29_spec
  have hf := first_spec regionN
  have hf0 := first_spec zeroN0
  have hb0 := beat_spec regionN zeroM
  rw [firstM, if_pos regionN_ok, netN_ok regionN_ok] at hf
  rw [firstM, if_neg zeroN0_bad, netN_bad zeroN0_bad] at hf0
  rw [beatM, beatL, zeroM_bad] at hb0
  have hh := fun k => hear_spec regionN (hmK k) 0 0 0 [65536, 0]
  have hb := fun k => beat_spec regionN (bmK k)
  have hnp := net_pure regionN
  have hpM := fun m => masV_pure m
  have h9 := hear_spec regionN (bmK 3) 9 0 0 [0, 0]
  have h1 := hear_spec regionN (bmK 3) 0 0 0 [0]
  have hm3 := masC_ok regionN_ok (bm_ok 3)
  rw [hearC_no hm3 (by rw [place9]; decide), hearM_bad (hearC_no hm3 (by rw [place9]; decide)) (by decide)] at h9
  have hmany : hearC regionN (bmK 3) 0 [0] = 4 := hearC_many hm3 place0 (by rw [bm_loads]; decide)
  rw [hmany, hearM_bad hmany (by decide)] at h1
  refine fnD_of mixed Tryz.func4 rfl rfl (by simp [Tryz.ntmps4]) fun hwf E => ?_
  clear hwf
  simp (disch := omega) [Tryz.ntmps4, go_sem]
  refine callK_data hr [] (by simp [go_sem]) (.inl rfl) (net_pure _) (fun _ => ?_)
  simp (disch := omega) [go_sem]
  refine callK_data hf [] (by simp [go_sem, hnp]) (.inl rfl) (by simp [go_sem, hpM]) (fun _ => ?_) (by simp [tabG, go_sem])
  simp (disch := omega) [go_sem, masV]
  refine awz_loop mixed (fun k : Nat => ⟨[(3, .int .i64 k), (1, .ptr 96 1 0 0)], [(96, ⟨.box, 32, 5, [masV (hmK k)]⟩)], 1024, [], 136, 0, tabG⟩) (fun k => k ≤ 3) (fun k => 3 - k) 0 ?_ ?_ ?_
  · omega
  · rw [hm_zero]
    refine Le.mk [(96, some 96)] [96] ⟨rfl, rfl, rfl⟩ ?_ ?_ ?_ <;> simp [go_sem, masV]
  · intro k hk
    have hq := hh k
    obtain ⟨e1, e2⟩ := hm_next (hm_ok k)
    rw [e1, e2] at hq
    simp only [masV] at hq
    simp (disch := omega) [go_sem, masV]
    refine br_of (fun h => ?_) (fun h => ?_) <;> simp at h
    · simp (disch := omega) [go_sem]
      refine callK_data hr [] (by simp [go_sem]) (.inl rfl) (net_pure _) (fun _ => ?_)
      simp (disch := omega) [go_sem]
      refine callK_frz hq [1088] [(1088, ⟨.ro, 2, 1, ints [65536, 0]⟩)] (by simp [go_sem, hnp, ints]) (by simp [go_sem, hnp, ints]) (by simp [go_sem, hnp, ints]) (fun _ => ?_) (by simp [tabG, go_sem])
      simp (disch := omega) [go_sem, hnp, ints]
      refine ⟨.inl (by kernel_rfl), ?_⟩
      refine round_of (k + 1) (by omega) (by omega) (Le.mk [(96, some 96)] [96] ⟨rfl, rfl, rfl⟩ ?_ ?_ ?_) <;> simp [go_sem, masV]
    · have hkk : k = 3 := by omega
      subst hkk
      simp (disch := omega) [go_sem, hmK, hm_three, rows, ints]
      refine awz_loop mixed (fun k : Nat => ⟨[(7, .int .i64 k), (6, .bool true), (1, .ptr 96 1 0 0)], [(96, ⟨.box, 32, 5, [masV (bmK k)]⟩)], 2048, [], 136, 0, tabG⟩) (fun k => k ≤ 3) (fun k => 3 - k) 0 ?_ ?_ ?_
      · omega
      · refine Le.mk [(96, some 96)] [96] ⟨rfl, rfl, rfl⟩ ?_ ?_ ?_ <;> simp [go_sem, masV, bmK, hmK, hm_three, rows, ints]
      · clear hk
        intro k hk
        have hq := hb k
        have hm1 := masC_ok regionN_ok (bm_ok k)
        rw [beatM, beatL, if_pos hm1, if_pos hm1, hm1, ← bmK] at hq
        have hpc := cmds_pure (beL regionN (bmK k))
        simp only [masV] at hq
        simp (disch := omega) [go_sem, masV]
        refine br_of (fun h2 => ?_) (fun h2 => ?_) <;> simp at h2
        · simp (disch := omega) [go_sem]
          refine callK_data hr [] (by simp [go_sem]) (.inl rfl) (net_pure _) (fun _ => ?_)
          simp (disch := omega) [go_sem]
          refine callK_data hq [] (by simp [go_sem, hnp]) (.inl rfl) (by simp [go_sem, hpc]) (fun _ => ?_) (by simp [tabG, go_sem])
          simp (disch := omega) [go_sem]
          refine ⟨.inl (by kernel_rfl), ?_⟩
          refine round_of (k + 1) (by omega) (by omega) (Le.mk [(96, some 96)] [96] ⟨rfl, rfl, rfl⟩ ?_ ?_ ?_) <;> simp [go_sem, masV]
        · have hkk : k = 3 := by omega
          subst hkk
          have l3 := bm_loads 3
          have c3 := bm_three
          generalize bmK 3 = M at *
          obtain ⟨M1, M2, M3, M4, M5⟩ := M
          simp only at l3 c3
          subst l3 c3
          simp only [masV] at h9 h1
          simp (disch := omega) [go_sem]
          refine callK_data hr [] (by simp [go_sem]) (.inl rfl) (net_pure _) (fun _ => ?_)
          simp (disch := omega) [go_sem]
          refine callK_frz h9 [2112] [(2112, ⟨.ro, 2, 1, ints [0, 0]⟩)] (by simp [go_sem, hnp, ints, zeroM, votesV, bondsV, rows]) (by simp [go_sem, hnp, ints, zeroM, votesV, bondsV, rows]) (by simp [go_sem, hnp, ints, zeroM, votesV, bondsV, rows]) (fun _ => ?_) (by simp [tabG, go_sem])
          simp (disch := omega) [go_sem, hnp, ints, zeroM, votesV, bondsV, rows]
          refine ⟨.inl (by kernel_rfl), ?_⟩
          refine callK_data hr [] (by simp [go_sem]) (.inl rfl) (net_pure _) (fun _ => ?_)
          simp (disch := omega) [go_sem]
          refine callK_frz h1 [2288] [(2288, ⟨.ro, 2, 1, ints [0]⟩)] (by simp [go_sem, hnp, ints, zeroM, votesV, bondsV, rows]) (by simp [go_sem, hnp, ints, zeroM, votesV, bondsV, rows]) (by simp [go_sem, hnp, ints, zeroM, votesV, bondsV, rows]) (fun _ => ?_) (by simp [tabG, go_sem])
          simp (disch := omega) [go_sem, hnp, ints, zeroM, votesV, bondsV, rows]
          refine ⟨.inl (by kernel_rfl), ?_⟩
          refine callK_data hr [] (by simp [go_sem]) (.inl rfl) (net_pure _) (fun _ => ?_)
          simp only [masV, zeroM] at hb0
          simp only [netV, zeroN0] at hf0
          simp (disch := omega) [go_sem]
          refine callK_data hb0 [] (by simp [go_sem, hnp, votesV, bondsV, rows]) (.inl rfl) (by simp [go_sem, votesV, bondsV, rows]) (fun _ => ?_) (by simp [tabG, go_sem])
          simp (disch := omega) [go_sem]
          refine callK_data hf0 [] (by simp [go_sem]) (.inl rfl) (by simp [go_sem, hpM]) (fun _ => ?_) (by simp [tabG, go_sem])
          simp (disch := omega) [go_sem, masV]
          refine callK_data ha [] (by simp [go_sem]) (.inl rfl) (by simp [go_sem]) (fun _ => ?_) (by simp [tabG, go_sem])
          simp (disch := omega) [go_sem]
          simp (disch := omega) [go_sem, votesV, voteV]
end Go.Proofs.YtpijmanjjhpkiaaGreatDoor
