/- The statement SitePlans: the walk. -/
import Derived.Test.YtiibccoaopjoiaaDoorBack5
set_option linter.unusedSimpArgs false
set_option linter.unusedVariables false
namespace Go.Proofs.YtiibccoaopjoiaaDoor
open Go.AM Go.RowKit
set_option maxRecDepth 100000

theorem whole_good {l : List Pln} (h : wholeE l = 0) : FnD Tryd.prog 35 [.sl 3 (l.map plnV)] (.tup [.sl 1 (bts (putN (plansI l))), .int .i64 0]) := by
  have q := whole_spec l
  rw [h, show wholeB l = putN (plansI l) by unfold wholeB; rw [if_pos h]] at q
  exact q
theorem parts_good {l : List Pln} (h : wholeE l = 0) : FnD Tryd.prog 38 [.sl 1 (bts (putN (plansI l)))] (.tup [.sl 3 (l.map plnV), .int .i64 0]) := by
  have q := sparts_spec (putN (plansI l))
  obtain ⟨h1, h2⟩ := parts_whole h
  rw [(parts5_ok h1).1, (parts5_ok h1).2, h2] at q
  exact q
theorem parts_nogood {l : List UInt8} (h : ¬ ∃ m, wholeE m = 0 ∧ putN (plansI m) = l) : FnD Tryd.prog 38 [.sl 1 (bts l)] (.tup [.sl 3 [], .int .i64 8]) := by
  have q := sparts_spec l
  have hn : ¬ PartsOk5 l := fun hp => h ⟨_, hp.2.1, hp.2.2⟩
  rw [(parts5_bad hn).1, (parts5_bad hn).2] at q
  exact q
def plS (s : Sit) (k : Nat) : St := ⟨[(18, .int .i64 k), (7, .bool true), (3, .ptr 0 1 0 0)], [(0, ⟨.box, 29, 12, [sitU s]⟩)], 2048, [], 126, 0, tabG⟩
set_option maxHeartbeats 4000000 in
theorem splans_spec (s : Sit) (l : List Pln) (b : List UInt8) : FnD Tryd.prog 6 [sitV s, .sl 3 (l.map plnV), .sl 1 (bts b)] (.bool true) tabG := by
  have hpl := bts_pure b
  have hll := bts_len b
  have hpn := plns_pure l
  have qs := small5_spec s
  have qs2 := small5_spec ⟨0, [], [], [], [], [], 0, 0, 0, 0, 0, l⟩
  have qc := check_spec s
  have qp := fun p => plan_spec s p
  have qw := whole_spec l
  have hpw := bts_pure (putN (plansI l))
  have hbw := bytesV_bts (putN (plansI l))
  have w1 := fun h => whole_good (l := l) h
  have p1 := fun h => parts_good (l := l) h
  have hz : sitV ⟨0, [], [], [], [], [], 0, 0, 0, 0, 0, l⟩ = .agg [.int .i64 0, .sl 3 [], .sl 1 [], .sl 1 [], .sl 5 [], .sl 4 [], .int .i64 0, .int .i64 0, .int .i64 0, .int .i64 0, .int .i64 0, .sl 3 (l.map plnV)] := rfl
  rw [hz] at qs2
  rw [sitU_eq] at qs qc qp ⊢
  have hwb : wholeE l ≠ 0 → wholeB l = [] := fun h => by unfold wholeB; rw [if_neg h]
  generalize putN (plansI l) = w at *
  refine fnD_of mixed Tryd.func6 rfl rfl (by simp [Tryd.ntmps6]) fun hwf E => ?_
  have hpb : s.plans.length ≤ 140737488355328 := by
    simp (disch := omega) [go_sem, hll, sets_len, rows_len] at hwf
    omega
  simp (disch := omega) [Tryd.ntmps6, go_sem]
  refine callK_data alive5_spec [] (by simp [go_sem]) (.inl rfl) (by simp [go_sem]) (fun _ => ?_) (by simp [tabG, go_sem])
  simp (disch := omega) [go_sem]
  refine callK_bool qs [] (by simp [go_sem, grps_pure, sets_pure, rows_pure, phas_pure, eyes_pure, plns_pure]) (fun hs1 => ?_) (fun hs1 => ?_)
  · simp (disch := omega) [go_sem, hll]
    refine callK_bool qs2 [] (by simp [go_sem, plns_pure]) (fun hs2 => ?_) (fun hs2 => ?_)
    · simp (disch := omega) [go_sem, hll]
      refine br_of (fun h1 => ?_) (fun h1 => ?_)
      · simp (disch := omega) [go_sem]
      · simp (disch := omega) [go_sem]
        by_cases he : wholeE l = 0
        · refine callK_data (w1 he) [] (by simp [go_sem, hpn]) (.inl rfl) (by simp [go_sem, hpw]) (fun _ => ?_)
          simp (disch := omega) [go_sem]
          refine callK_data (p1 he) [] (by simp [go_sem, hpw]) (.inl rfl) (by simp [go_sem, hpn]) (fun _ => ?_)
          simp (disch := omega) [go_sem]
          refine callK_data (w1 he) [] (by simp [go_sem, hpn]) (.inl rfl) (by simp [go_sem, hpw]) (fun _ => ?_)
          simp (disch := omega) [go_sem, hbw, strV]
          by_cases hb : ∃ m, wholeE m = 0 ∧ putN (plansI m) = b
          · obtain ⟨m, hm, hbm⟩ := hb
            have r2 := parts_good hm
            have w4 := whole_good hm
            rw [hbm] at r2 w4
            have hbl := bytesV_bts b
            refine callK_data r2 [] (by simp [go_sem, hpl]) (.inl rfl) (by simp [go_sem, plns_pure]) (fun _ => ?_)
            simp (disch := omega) [go_sem]
            refine callK_data w4 [] (by simp [go_sem, plns_pure]) (.inl rfl) (by simp [go_sem, hpl]) (fun _ => ?_)
            simp (disch := omega) [go_sem, hbl, strV]
            refine awz_loop mixed (plS s) (fun k => k ≤ s.plans.length) (fun k => s.plans.length - k) 0 (by omega) ?_ ?_
            · refine Le.mk [(0, some 0)] [0] ⟨rfl, rfl, rfl⟩ ?_ ?_ ?_ <;> simp [go_sem, plS, grps_pure, sets_pure, rows_pure, phas_pure, eyes_pure, plns_pure]
            · intro k hk
              by_cases h : k < s.plans.length
              · have hd : decide (k < s.plans.length) = true := by simpa using h
                simp (disch := omega) [go_sem, plS, hd]
                refine callK_data qc [] (by simp [go_sem, grps_pure, sets_pure, rows_pure, phas_pure, eyes_pure, plns_pure]) (.inl rfl) (by simp [go_sem]) (fun _ => ?_) (by simp [tabG, go_sem])
                simp (disch := omega) [go_sem, h, hd]
                refine br_of (fun h2 => ?_) (fun h2 => ?_) <;> simp at h2
                · have hgp : nth (s.plans.map plnV) k = plnV s.plans[k] := nth_map h
                  have hOk : SiteOk s := by
                    by_cases hk : SiteOk s
                    · exact hk
                    · rw [checkN_bad hk] at h2; omega
                  have hf : Fits s s.plans[k] := by
                    have h5 : (s.plans.all fun p => decide (Fits s p)) = true := hOk 5 (by omega)
                    have := List.all_eq_true.1 h5 _ (List.getElem_mem h)
                    simpa using this
                  have q := qp s.plans[k]
                  rw [checkN_ok hOk, decide_eq_true hOk, decide_eq_true hf] at q
                  generalize s.plans[k] = p at *
                  obtain ⟨p1, p2, p3⟩ := p
                  have hp3 := ints_pure p3
                  simp only [plnV] at q hgp
                  simp (disch := omega) [go_sem, h, hgp]
                  refine callK_data q [] (by simp [go_sem, grps_pure, sets_pure, rows_pure, phas_pure, eyes_pure, plns_pure, hp3]) (.inl rfl) (by simp [go_sem]) (fun _ => ?_) (by simp [tabG, go_sem])
                  simp (disch := omega) [go_sem]
                  refine ⟨.inl (by kernel_rfl), round_of (k + 1) (by omega) (by omega) (Le.mk [(0, some 0)] [0] ⟨rfl, rfl, rfl⟩ ?_ ?_ ?_)⟩ <;> simp [go_sem, plS, grps_pure, sets_pure, rows_pure, phas_pure, eyes_pure, plns_pure]
                · simp (disch := omega) [go_sem]
              · have hd : decide (k < s.plans.length) = false := by simpa using h
                simp (disch := omega) [go_sem, plS, hd]
          · have r3 := parts_nogood hb
            refine callK_data r3 [] (by simp [go_sem, hpl]) (.inl rfl) (by simp [go_sem]) (fun _ => ?_)
            simp (disch := omega) [go_sem]
            refine awz_loop mixed (plS s) (fun k => k ≤ s.plans.length) (fun k => s.plans.length - k) 0 (by omega) ?_ ?_
            · refine Le.mk [(0, some 0)] [0] ⟨rfl, rfl, rfl⟩ ?_ ?_ ?_ <;> simp [go_sem, plS, grps_pure, sets_pure, rows_pure, phas_pure, eyes_pure, plns_pure]
            · intro k hk
              by_cases h : k < s.plans.length
              · have hd : decide (k < s.plans.length) = true := by simpa using h
                simp (disch := omega) [go_sem, plS, hd]
                refine callK_data qc [] (by simp [go_sem, grps_pure, sets_pure, rows_pure, phas_pure, eyes_pure, plns_pure]) (.inl rfl) (by simp [go_sem]) (fun _ => ?_) (by simp [tabG, go_sem])
                simp (disch := omega) [go_sem, h, hd]
                refine br_of (fun h2 => ?_) (fun h2 => ?_) <;> simp at h2
                · have hgp : nth (s.plans.map plnV) k = plnV s.plans[k] := nth_map h
                  have hOk : SiteOk s := by
                    by_cases hk : SiteOk s
                    · exact hk
                    · rw [checkN_bad hk] at h2; omega
                  have hf : Fits s s.plans[k] := by
                    have h5 : (s.plans.all fun p => decide (Fits s p)) = true := hOk 5 (by omega)
                    have := List.all_eq_true.1 h5 _ (List.getElem_mem h)
                    simpa using this
                  have q := qp s.plans[k]
                  rw [checkN_ok hOk, decide_eq_true hOk, decide_eq_true hf] at q
                  generalize s.plans[k] = p at *
                  obtain ⟨p1, p2, p3⟩ := p
                  have hp3 := ints_pure p3
                  simp only [plnV] at q hgp
                  simp (disch := omega) [go_sem, h, hgp]
                  refine callK_data q [] (by simp [go_sem, grps_pure, sets_pure, rows_pure, phas_pure, eyes_pure, plns_pure, hp3]) (.inl rfl) (by simp [go_sem]) (fun _ => ?_) (by simp [tabG, go_sem])
                  simp (disch := omega) [go_sem]
                  refine ⟨.inl (by kernel_rfl), round_of (k + 1) (by omega) (by omega) (Le.mk [(0, some 0)] [0] ⟨rfl, rfl, rfl⟩ ?_ ?_ ?_)⟩ <;> simp [go_sem, plS, grps_pure, sets_pure, rows_pure, phas_pure, eyes_pure, plns_pure]
                · simp (disch := omega) [go_sem]
              · have hd : decide (k < s.plans.length) = false := by simpa using h
                simp (disch := omega) [go_sem, plS, hd]
        · have hq : (wholeE l == 0) = false := by simpa using he
          rw [hwb he] at qw
          refine callK_data qw [] (by simp [go_sem, hpn]) (.inl rfl) (by simp [go_sem, bts]) (fun _ => ?_)
          simp (disch := omega) [go_sem, hq]
          by_cases hb : ∃ m, wholeE m = 0 ∧ putN (plansI m) = b
          · obtain ⟨m, hm, hbm⟩ := hb
            have r2 := parts_good hm
            have w4 := whole_good hm
            rw [hbm] at r2 w4
            have hbl := bytesV_bts b
            refine callK_data r2 [] (by simp [go_sem, hpl]) (.inl rfl) (by simp [go_sem, plns_pure]) (fun _ => ?_)
            simp (disch := omega) [go_sem]
            refine callK_data w4 [] (by simp [go_sem, plns_pure]) (.inl rfl) (by simp [go_sem, hpl]) (fun _ => ?_)
            simp (disch := omega) [go_sem, hbl, strV]
            refine awz_loop mixed (plS s) (fun k => k ≤ s.plans.length) (fun k => s.plans.length - k) 0 (by omega) ?_ ?_
            · refine Le.mk [(0, some 0)] [0] ⟨rfl, rfl, rfl⟩ ?_ ?_ ?_ <;> simp [go_sem, plS, grps_pure, sets_pure, rows_pure, phas_pure, eyes_pure, plns_pure]
            · intro k hk
              by_cases h : k < s.plans.length
              · have hd : decide (k < s.plans.length) = true := by simpa using h
                simp (disch := omega) [go_sem, plS, hd]
                refine callK_data qc [] (by simp [go_sem, grps_pure, sets_pure, rows_pure, phas_pure, eyes_pure, plns_pure]) (.inl rfl) (by simp [go_sem]) (fun _ => ?_) (by simp [tabG, go_sem])
                simp (disch := omega) [go_sem, h, hd]
                refine br_of (fun h2 => ?_) (fun h2 => ?_) <;> simp at h2
                · have hgp : nth (s.plans.map plnV) k = plnV s.plans[k] := nth_map h
                  have hOk : SiteOk s := by
                    by_cases hk : SiteOk s
                    · exact hk
                    · rw [checkN_bad hk] at h2; omega
                  have hf : Fits s s.plans[k] := by
                    have h5 : (s.plans.all fun p => decide (Fits s p)) = true := hOk 5 (by omega)
                    have := List.all_eq_true.1 h5 _ (List.getElem_mem h)
                    simpa using this
                  have q := qp s.plans[k]
                  rw [checkN_ok hOk, decide_eq_true hOk, decide_eq_true hf] at q
                  generalize s.plans[k] = p at *
                  obtain ⟨p1, p2, p3⟩ := p
                  have hp3 := ints_pure p3
                  simp only [plnV] at q hgp
                  simp (disch := omega) [go_sem, h, hgp]
                  refine callK_data q [] (by simp [go_sem, grps_pure, sets_pure, rows_pure, phas_pure, eyes_pure, plns_pure, hp3]) (.inl rfl) (by simp [go_sem]) (fun _ => ?_) (by simp [tabG, go_sem])
                  simp (disch := omega) [go_sem]
                  refine ⟨.inl (by kernel_rfl), round_of (k + 1) (by omega) (by omega) (Le.mk [(0, some 0)] [0] ⟨rfl, rfl, rfl⟩ ?_ ?_ ?_)⟩ <;> simp [go_sem, plS, grps_pure, sets_pure, rows_pure, phas_pure, eyes_pure, plns_pure]
                · simp (disch := omega) [go_sem]
              · have hd : decide (k < s.plans.length) = false := by simpa using h
                simp (disch := omega) [go_sem, plS, hd]
          · have r3 := parts_nogood hb
            refine callK_data r3 [] (by simp [go_sem, hpl]) (.inl rfl) (by simp [go_sem]) (fun _ => ?_)
            simp (disch := omega) [go_sem]
            refine awz_loop mixed (plS s) (fun k => k ≤ s.plans.length) (fun k => s.plans.length - k) 0 (by omega) ?_ ?_
            · refine Le.mk [(0, some 0)] [0] ⟨rfl, rfl, rfl⟩ ?_ ?_ ?_ <;> simp [go_sem, plS, grps_pure, sets_pure, rows_pure, phas_pure, eyes_pure, plns_pure]
            · intro k hk
              by_cases h : k < s.plans.length
              · have hd : decide (k < s.plans.length) = true := by simpa using h
                simp (disch := omega) [go_sem, plS, hd]
                refine callK_data qc [] (by simp [go_sem, grps_pure, sets_pure, rows_pure, phas_pure, eyes_pure, plns_pure]) (.inl rfl) (by simp [go_sem]) (fun _ => ?_) (by simp [tabG, go_sem])
                simp (disch := omega) [go_sem, h, hd]
                refine br_of (fun h2 => ?_) (fun h2 => ?_) <;> simp at h2
                · have hgp : nth (s.plans.map plnV) k = plnV s.plans[k] := nth_map h
                  have hOk : SiteOk s := by
                    by_cases hk : SiteOk s
                    · exact hk
                    · rw [checkN_bad hk] at h2; omega
                  have hf : Fits s s.plans[k] := by
                    have h5 : (s.plans.all fun p => decide (Fits s p)) = true := hOk 5 (by omega)
                    have := List.all_eq_true.1 h5 _ (List.getElem_mem h)
                    simpa using this
                  have q := qp s.plans[k]
                  rw [checkN_ok hOk, decide_eq_true hOk, decide_eq_true hf] at q
                  generalize s.plans[k] = p at *
                  obtain ⟨p1, p2, p3⟩ := p
                  have hp3 := ints_pure p3
                  simp only [plnV] at q hgp
                  simp (disch := omega) [go_sem, h, hgp]
                  refine callK_data q [] (by simp [go_sem, grps_pure, sets_pure, rows_pure, phas_pure, eyes_pure, plns_pure, hp3]) (.inl rfl) (by simp [go_sem]) (fun _ => ?_) (by simp [tabG, go_sem])
                  simp (disch := omega) [go_sem]
                  refine ⟨.inl (by kernel_rfl), round_of (k + 1) (by omega) (by omega) (Le.mk [(0, some 0)] [0] ⟨rfl, rfl, rfl⟩ ?_ ?_ ?_)⟩ <;> simp [go_sem, plS, grps_pure, sets_pure, rows_pure, phas_pure, eyes_pure, plns_pure]
                · simp (disch := omega) [go_sem]
              · have hd : decide (k < s.plans.length) = false := by simpa using h
                simp (disch := omega) [go_sem, plS, hd]
    · simp (disch := omega) [go_sem, hll]
  · simp (disch := omega) [go_sem, hll]
end Go.Proofs.YtiibccoaopjoiaaDoor
