
/- The reference stoplineref05: sites are written. -/
import Derived.Test.YtdeionjkcmpnpaaGreatDoorWr5
set_option linter.unusedSimpArgs false
set_option linter.unusedVariables false
namespace Go.Proofs.YtdeionjkcmpnpaaGreatDoor
open Go.AM Go.RowKit
set_option maxRecDepth 100000

theorem putN_next {a a' e : List Int} (h : a' = a ++ e) : bts (putN a) ++ bts (putN e) = bts (putN a') ∧ (putN a').length = (putN a).length + (putN e).length ∧ (putN e).length ≤ 11 * e.length ∧ (putN a).length ≤ 11 * a.length := by
  subst h
  exact ⟨by rw [← bts_app, ← putN_app], by rw [putN_app, List.length_append], putN_len _, putN_len _⟩
def in5 (s : Sit) (sl : List (Nat × V)) (a : List Int) (nx : Nat) : St :=
  ⟨sl ++ [(3, .obj 144 (putN a).length), (1, .ptr 16 1 0 0)], [(144, ⟨.arr, 5, 1, bts (putN a)⟩), (16, ⟨.box, 87, 12, [sitV s]⟩)], nx, [], 172, 0, []⟩
def wsB3 (s : Sit) : List Int := wsA3 s s.between.length ++ [(s.phases.length : Int)]
def wsB4 (s : Sit) : List Int := wsA4 s s.phases.length ++ [(s.eyes.length : Int)]
set_option maxHeartbeats 8000000 in
theorem r5inside_ref (s : Sit) (hOk : SiteOk s) : FnR Tryz.prog 157 [] [sitV s] [⟨.arr, 5, 1, bts (insideB s)⟩] (.obj 0 (insideB s).length) := by
  have hW := hOk.written
  have hL := wsA_len hW
  have u1 := hW.gl; have u2 := hW.al; have u3 := hW.bl; have u4 := hW.pl; have u5 := hW.el
  have hsv : sitV s = .agg [.int .i64 s.id, .sl 3 (s.groups.map grpV), .sl 1 (sets s.apart), .sl 1 (rows s.between), .sl 5 (s.phases.map phaV), .sl 4 (s.eyes.map eyeV), .int .i64 s.watch, .int .i64 s.feed, .int .i64 s.heal, .int .i64 s.low, .int .i64 s.high, .sl 3 (s.plans.map plnV)] := rfl
  rw [hsv]
  have q0 := r5small_ref (wsA0 s) (by have := hW.id; simp [wsA0]; omega) (by simp [wsA0])
  refine fnR_of mixed Tryz.func157 rfl rfl (by simp [Tryz.ntmps157]) (by simp) fun hwf E => ?_
  clear hwf
  simp (disch := omega) [Tryz.ntmps157, go_sem]
  refine callK_ref q0 [] [] [128] [] ?_ ?_ ?_ (.inl ⟨rfl, .inr (by simp [go_sem, ints_cons, ints_nil, wsA0])⟩) (fun _ => ?_)
  · simp [go_sem, ints_cons, ints_nil, wsA0]
  · simp [go_sem, ints_cons, ints_nil, wsA0]
  · simp [go_sem, ints_cons, ints_nil, wsA0]
  simp (disch := omega) [go_sem, ints_cons, ints_nil, wsA0]
  refine awz_loop mixed (fun k : Nat => in5 s [(4, .int .i64 k)] (wsA1 s k) 1024) (fun k => k ≤ s.groups.length) (fun k => s.groups.length - k) 0 ?_ ?_ ?_
  · omega
  · refine Le.mk [(16, some 16), (144, some 144)] [16, 144] ⟨rfl, rfl, rfl⟩ ?_ ?_ ?_ <;> simp [go_sem, in5, wsA1, wsA0, sitV]
  · intro k hk
    have hLk := hL k
    simp (disch := omega) [go_sem, in5, sitV]
    refine br_of (fun h => ?_) (fun h => ?_) <;> simp at h
    · have hmem : s.groups[k] ∈ s.groups := List.getElem_mem h
      have hb := hW.gr _ hmem
      have hg : nth (s.groups.map grpV) k = grpV s.groups[k] := nth_map h
      have hA : wsA1 s (k + 1) = wsA1 s k ++ grpI s.groups[k] := by simp only [wsA1]; rw [flat_take h, List.append_assoc]
      clear hmem
      generalize s.groups[k] = x at *
      obtain ⟨g1, g2, g3⟩ := x
      simp only [grpI] at *
      have q := r5small_ref [g1, g2, g3] (by simp; omega) (by simp)
      obtain ⟨ea, el, eb, ec⟩ := putN_next hA
      simp only [List.length_cons, List.length_nil] at eb
      simp (disch := omega) [go_sem, h, hg, grpV]
      refine callK_ref q [] [] [1424] [] ?_ ?_ ?_ (.inl ⟨rfl, .inr (by simp [go_sem, ints_cons, ints_nil])⟩) (fun _ => ?_)
      · simp [go_sem, ints_cons, ints_nil]
      · simp [go_sem, ints_cons, ints_nil]
      · simp [go_sem, ints_cons, ints_nil]
      simp (disch := omega) [go_sem, ints_cons, ints_nil]
      refine ⟨by omega, .inl (by kernel_rfl), ?_⟩
      refine round_of (k + 1) (by omega) (by omega) (Le.mk [(16, some 16), (144, some 144)] [16, 144] ⟨rfl, rfl, rfl⟩ ?_ ?_ ?_) <;> simp [go_sem, in5, sitV, ea, el]
    · have hkl : k = s.groups.length := by omega
      subst hkl
      simp (disch := omega) [go_sem]
      refine awz_loop mixed (fun k : Nat => in5 s [(5, .int .i64 k)] (wsA2 s k) 2048) (fun k => k ≤ s.apart.length) (fun k => s.apart.length - k) 0 ?_ ?_ ?_
      · omega
      · refine Le.mk [(16, some 16), (144, some 144)] [16, 144] ⟨rfl, rfl, rfl⟩ ?_ ?_ ?_ <;> simp [go_sem, in5, wsA2, sitV]
      · intro k hk
        have hLk := hL k
        simp (disch := omega) [go_sem, in5, sitV]
        refine br_of (fun h => ?_) (fun h => ?_) <;> simp at h
        · have hmem : s.apart[k] ∈ s.apart := List.getElem_mem h
          have hb := hW.ap _ hmem
          have hg := nth_sets h
          have hA : wsA2 s (k + 1) = wsA2 s k ++ [(s.apart[k] : Int)] := by simp only [wsA2]; rw [flat_take h, List.append_assoc]
          clear hmem
          generalize s.apart[k] = x at *
          have q := r5small_ref [(x : Int)] (by simp) (by simp)
          obtain ⟨ea, el, eb, ec⟩ := putN_next hA
          simp only [List.length_cons, List.length_nil] at eb
          simp (disch := omega) [go_sem, h, hg]
          refine callK_ref q [] [] [2240] [] ?_ ?_ ?_ (.inl ⟨rfl, .inr (by simp [go_sem, ints_cons, ints_nil])⟩) (fun _ => ?_)
          · simp [go_sem, ints_cons, ints_nil]
          · simp [go_sem, ints_cons, ints_nil]
          · simp [go_sem, ints_cons, ints_nil]
          simp (disch := omega) [go_sem, ints_cons, ints_nil]
          refine ⟨by omega, ?_⟩
          refine round_of (k + 1) (by omega) (by omega) (Le.mk [(16, some 16), (144, some 144)] [16, 144] ⟨rfl, rfl, rfl⟩ ?_ ?_ ?_) <;> simp [go_sem, in5, sitV, ea, el]
        · have hkl : k = s.apart.length := by omega
          subst hkl
          simp (disch := omega) [go_sem]
          refine awz_loop mixed (fun k : Nat => in5 s [(6, .int .i64 k)] (wsA3 s k) 4096) (fun k => k ≤ s.between.length) (fun k => s.between.length - k) 0 ?_ ?_ ?_
          · omega
          · refine Le.mk [(16, some 16), (144, some 144)] [16, 144] ⟨rfl, rfl, rfl⟩ ?_ ?_ ?_ <;> simp [go_sem, in5, wsA3, sitV]
          · intro k hk
            have hLk := hL k
            simp (disch := omega) [go_sem, in5, sitV]
            refine br_of (fun h => ?_) (fun h => ?_) <;> simp at h
            · have hmem : s.between[k] ∈ s.between := List.getElem_mem h
              have hb := hW.bt _ hmem
              have hg := nth_rows h
              have hA : wsA3 s (k + 1) = wsA3 s k ++ s.between[k] := by simp only [wsA3]; rw [flat_take h, List.append_assoc]
              clear hmem
              generalize s.between[k] = x at *
              have q := r5small_ref x (fun y hy => (hb.2 y hy).1) (by have := hW.gl; omega)
              obtain ⟨ea, el, eb, ec⟩ := putN_next hA
              have hgl := hW.gl
              simp (disch := omega) [go_sem, h, hg]
              refine callK_ref q [] [] [] [] ?_ ?_ ?_ (.inl ⟨rfl, .inl rfl⟩) (fun _ => ?_)
              · simp [go_sem]
              · simp [go_sem]
              · simp [go_sem]
              simp (disch := omega) [go_sem]
              refine ⟨by omega, ?_⟩
              refine round_of (k + 1) (by omega) (by omega) (Le.mk [(16, some 16), (144, some 144)] [16, 144] ⟨rfl, rfl, rfl⟩ ?_ ?_ ?_) <;> simp [go_sem, in5, sitV, ea, el]
            · have hkl : k = s.between.length := by omega
              subst hkl
              simp (disch := omega) [go_sem]
              have q := r5small_ref [(s.phases.length : Int)] (by simp) (by simp)
              have hA : wsB3 s = wsA3 s s.between.length ++ [(s.phases.length : Int)] := rfl
              obtain ⟨ea, el, eb, ec⟩ := putN_next hA
              simp only [List.length_cons, List.length_nil] at eb
              refine callK_ref q [] [] [4240] [] ?_ ?_ ?_ (.inl ⟨rfl, .inr (by simp [go_sem, ints_cons, ints_nil])⟩) (fun _ => ?_)
              · simp [go_sem, ints_cons, ints_nil]
              · simp [go_sem, ints_cons, ints_nil]
              · simp [go_sem, ints_cons, ints_nil]
              simp (disch := omega) [go_sem, ints_cons, ints_nil]
              refine ⟨by omega, ?_⟩
              have h40 : wsA4 s 0 = wsB3 s := by simp [wsA4, wsB3]
              refine awz_loop mixed (fun k : Nat => in5 s [(7, .int .i64 k)] (wsA4 s k) 8192) (fun k => k ≤ s.phases.length) (fun k => s.phases.length - k) 0 ?_ ?_ ?_
              · omega
              · refine Le.mk [(16, some 16), (144, some 144)] [16, 144] ⟨rfl, rfl, rfl⟩ ?_ ?_ ?_ <;> simp [go_sem, in5, sitV, h40, ea, el]
              · intro k hk
                have hLk := hL k
                simp (disch := omega) [go_sem, in5, sitV]
                refine br_of (fun h => ?_) (fun h => ?_) <;> simp at h
                · have hmem : s.phases[k] ∈ s.phases := List.getElem_mem h
                  have hb := hW.ph _ hmem
                  have hg : nth (s.phases.map phaV) k = phaV s.phases[k] := nth_map h
                  have hA : wsA4 s (k + 1) = wsA4 s k ++ phaI s.phases[k] := by simp only [wsA4]; rw [flat_take h]; simp only [List.append_assoc]
                  clear hmem
                  generalize s.phases[k] = x at *
                  obtain ⟨g1, g2, g3, g4, g5⟩ := x
                  simp only [phaI] at *
                  have hbi : 0 ≤ b2i g5 := by unfold b2i; split <;> omega
                  have q := r5small_ref [(g1 : Int), g2, g3, g4, b2i g5] (by simp; omega) (by simp)
                  obtain ⟨ea, el, eb, ec⟩ := putN_next hA
                  simp only [List.length_cons, List.length_nil] at eb
                  cases g5
                  · have e5 : b2i false = 0 := rfl
                    rw [e5] at q ea el eb
                    simp (disch := omega) [go_sem, h, hg, phaV]
                    refine callK_ref q [] [] [8608] [] ?_ ?_ ?_ (.inl ⟨rfl, .inr (by simp [go_sem, ints_cons, ints_nil])⟩) (fun _ => ?_)
                    · simp [go_sem, ints_cons, ints_nil]
                    · simp [go_sem, ints_cons, ints_nil]
                    · simp [go_sem, ints_cons, ints_nil]
                    simp (disch := omega) [go_sem, ints_cons, ints_nil]
                    refine ⟨by omega, ?_⟩
                    refine round_of (k + 1) (by omega) (by omega) (Le.mk [(16, some 16), (144, some 144)] [16, 144] ⟨rfl, rfl, rfl⟩ ?_ ?_ ?_) <;> simp [go_sem, in5, sitV, ea, el]
                  · have e5 : b2i true = 1 := rfl
                    rw [e5] at q ea el eb
                    simp (disch := omega) [go_sem, h, hg, phaV]
                    refine callK_ref q [] [] [8624] [] ?_ ?_ ?_ (.inl ⟨rfl, .inr (by simp [go_sem, ints_cons, ints_nil])⟩) (fun _ => ?_)
                    · simp [go_sem, ints_cons, ints_nil]
                    · simp [go_sem, ints_cons, ints_nil]
                    · simp [go_sem, ints_cons, ints_nil]
                    simp (disch := omega) [go_sem, ints_cons, ints_nil]
                    refine ⟨by omega, ?_⟩
                    refine round_of (k + 1) (by omega) (by omega) (Le.mk [(16, some 16), (144, some 144)] [16, 144] ⟨rfl, rfl, rfl⟩ ?_ ?_ ?_) <;> simp [go_sem, in5, sitV, ea, el]
                · have hkl : k = s.phases.length := by omega
                  subst hkl
                  simp (disch := omega) [go_sem]
                  have q := r5small_ref [(s.eyes.length : Int)] (by simp) (by simp)
                  have hA : wsB4 s = wsA4 s s.phases.length ++ [(s.eyes.length : Int)] := rfl
                  obtain ⟨ea, el, eb, ec⟩ := putN_next hA
                  simp only [List.length_cons, List.length_nil] at eb
                  refine callK_ref q [] [] [8336] [] ?_ ?_ ?_ (.inl ⟨rfl, .inr (by simp [go_sem, ints_cons, ints_nil])⟩) (fun _ => ?_)
                  · simp [go_sem, ints_cons, ints_nil]
                  · simp [go_sem, ints_cons, ints_nil]
                  · simp [go_sem, ints_cons, ints_nil]
                  simp (disch := omega) [go_sem, ints_cons, ints_nil]
                  refine ⟨by omega, ?_⟩
                  have h50 : wsA5 s 0 = wsB4 s := by simp [wsA5, wsB4]
                  refine awz_loop mixed (fun k : Nat => in5 s [(10, .int .i64 k)] (wsA5 s k) 16384) (fun k => k ≤ s.eyes.length) (fun k => s.eyes.length - k) 0 ?_ ?_ ?_
                  · omega
                  · refine Le.mk [(16, some 16), (144, some 144)] [16, 144] ⟨rfl, rfl, rfl⟩ ?_ ?_ ?_ <;> simp [go_sem, in5, sitV, h50, ea, el]
                  · intro k hk
                    have hLk := hL k
                    simp (disch := omega) [go_sem, in5, sitV]
                    refine br_of (fun h => ?_) (fun h => ?_) <;> simp at h
                    · have hmem : s.eyes[k] ∈ s.eyes := List.getElem_mem h
                      have hb := hW.ey _ hmem
                      have hg : nth (s.eyes.map eyeV) k = eyeV s.eyes[k] := nth_map h
                      have hA : wsA5 s (k + 1) = wsA5 s k ++ eyeI s.eyes[k] := by simp only [wsA5]; rw [flat_take h]; simp only [List.append_assoc]
                      clear hmem
                      generalize s.eyes[k] = x at *
                      obtain ⟨g1, g2, g3, g4⟩ := x
                      simp only [eyeI] at *
                      have q := r5small_ref [g1, g2, g3, g4] (by simp; omega) (by simp)
                      obtain ⟨ea, el, eb, ec⟩ := putN_next hA
                      simp only [List.length_cons, List.length_nil] at eb
                      simp (disch := omega) [go_sem, h, hg, eyeV]
                      refine callK_ref q [] [] [16720] [] ?_ ?_ ?_ (.inl ⟨rfl, .inr (by simp [go_sem, ints_cons, ints_nil])⟩) (fun _ => ?_)
                      · simp [go_sem, ints_cons, ints_nil]
                      · simp [go_sem, ints_cons, ints_nil]
                      · simp [go_sem, ints_cons, ints_nil]
                      simp (disch := omega) [go_sem, ints_cons, ints_nil]
                      refine ⟨by omega, ?_⟩
                      refine round_of (k + 1) (by omega) (by omega) (Le.mk [(16, some 16), (144, some 144)] [16, 144] ⟨rfl, rfl, rfl⟩ ?_ ?_ ?_) <;> simp [go_sem, in5, sitV, ea, el]
                    · have hkl : k = s.eyes.length := by omega
                      subst hkl
                      simp (disch := omega) [go_sem]
                      have q := r5small_ref (tailI s) (by intro x hx; exact (hW.tl x hx).1) (by simp [tailI])
                      have hA : wsA6 s = wsA5 s s.eyes.length ++ tailI s := rfl
                      obtain ⟨ea, el, eb, ec⟩ := putN_next hA
                      have ht5 : (tailI s).length = 5 := rfl
                      have hwh := r5whole_spec s.plans
                      have hwe := whole_of hW.ql hW.qp
                      have hwb : wholeB s.plans = putN (plansI s.plans) := by unfold wholeB; rw [if_pos hwe]
                      rw [hwe, hwb] at hwh
                      have hpq := putN_len (plansI s.plans)
                      have hpl := plansI_len hW.ql hW.qp
                      have hfin : bts (putN (wsA6 s)) ++ bts (putN (plansI s.plans)) = bts (insideB s) := by rw [← bts_app, ← putN_app, wsA_all]; rfl
                      have hfl : (insideB s).length = (putN (wsA6 s)).length + (putN (plansI s.plans)).length := by unfold insideB; rw [← wsA_all, putN_app, List.length_append]
                      simp only [tailI] at q ea el eb hA
                      simp only [List.length_cons, List.length_nil] at eb
                      have hLk := hL s.eyes.length
                      refine callK_ref q [] [] [16640] [] ?_ ?_ ?_ (.inl ⟨rfl, .inr (by simp [go_sem, ints_cons, ints_nil])⟩) (fun _ => ?_)
                      · simp [go_sem, ints_cons, ints_nil]
                      · simp [go_sem, ints_cons, ints_nil]
                      · simp [go_sem, ints_cons, ints_nil]
                      simp (disch := omega) [go_sem, ints_cons, ints_nil]
                      refine ⟨by omega, ?_⟩
                      have hfa : bts (putN (wsA5 s s.eyes.length)) ++ (bts (putN [s.watch, s.feed, s.heal, s.low, s.high]) ++ bts (putN (plansI s.plans))) = bts (insideB s) := by rw [← List.append_assoc, ea, hfin]
                      refine callK_data hwh [] (by simp [go_sem]) (.inl rfl) (by simp [go_sem]) (fun _ => ?_)
                      simp (disch := omega) [go_sem]
                      refine ⟨by omega, ?_⟩
                      refine Le.mk [(0, some 144)] [144] ⟨rfl, rfl, rfl⟩ ?_ ?_ ?_ <;> simp [go_sem, ea, el, hfin, hfl, hfa]

set_option maxHeartbeats 2000000 in
theorem r5write_spec (s : Sit) : FnD Tryz.prog 94 [sitV s] (.tup [.sl 1 (bts (writeV s)), .int .i64 (checkN s)]) := by
  have hsv : sitV s = .agg [.int .i64 s.id, .sl 3 (s.groups.map grpV), .sl 1 (sets s.apart), .sl 1 (rows s.between), .sl 5 (s.phases.map phaV), .sl 4 (s.eyes.map eyeV), .int .i64 s.watch, .int .i64 s.feed, .int .i64 s.heal, .int .i64 s.low, .int .i64 s.high, .sl 3 (s.plans.map plnV)] := rfl
  have hc := rcheck_spec s
  have hi := r5inside_ref s
  have hs := r5summed_ref (insideB s)
  rw [hsv] at hc hi ⊢
  refine fnD_of mixed Tryz.func94 rfl rfl (by simp [Tryz.ntmps94]) fun hwf E => ?_
  clear hwf
  simp (disch := omega) [Tryz.ntmps94, go_sem]
  refine callK_data hc [] (by simp [go_sem]) (.inl rfl) (by simp [go_sem]) (fun _ => ?_)
  simp (disch := omega) [go_sem]
  by_cases hOk : SiteOk s
  · have hl := insideB_len hOk.written
    have hwl := writeB_len s
    have ew : writeV s = writeB s := by unfold writeV; rw [if_pos hOk]
    have ec := checkN_ok hOk
    have e2 : insideB s ++ sumB (insideB s) = writeB s := rfl
    have hs := hs (by omega)
    rw [e2] at hs
    rw [ec, ew]
    simp (disch := omega) [go_sem]
    refine callK_ref ((hi hOk)) [] [] [] [] ?_ ?_ ?_ (.inl ⟨rfl, .inl rfl⟩) (fun _ => ?_)
    · simp [go_sem]
    · simp [go_sem]
    · simp [go_sem]
    simp (disch := omega) [go_sem]
    refine callK_ref hs [(0, some 144)] [144] [] [] ?_ ?_ ?_ (.inl ⟨rfl, .inl rfl⟩) (fun _ => ?_)
    · simp [go_sem]
    · simp [go_sem]
    · simp [go_sem]
    simp (disch := omega) [go_sem]
    exact argsLe_self (bts_pure _)
  · have ec := checkN_bad hOk
    have ew : writeV s = [] := by unfold writeV; rw [if_neg hOk]
    rw [ec, ew]
    simp (disch := omega) [go_sem, bts]
end Go.Proofs.YtdeionjkcmpnpaaGreatDoor
