/- WedVotes: a wed's bond a vote later is the document's. -/
import Derived.Test.YthjojamcolmbdaaDoorRef25
import Derived.Test.YthjojamcolmbdaaDoorWed
set_option linter.unusedSimpArgs false
set_option linter.unusedVariables false
namespace Go.Proofs.YthjojamcolmbdaaDoor
open Go.AM Go.RowKit
set_option maxRecDepth 100000

theorem r28may_spec (b : Bool × Int) : FnD Tryd.prog 93 [bondV b] (.bool (inM b.2)) := by
  obtain ⟨t, m⟩ := b
  unfold bondV
  refine fnD_of mixed Tryd.func93 rfl rfl (by simp [Tryd.ntmps93]) fun hwf E => ?_
  simp (disch := omega) [Tryd.ntmps93, go_sem]
  rfl
theorem r28later_spec (n : NetN) (w : Int) (b : Bool × Int) (x y : Int) (hOk : NetOk n) (hB : bondOk n w b x y) : FnD Tryd.prog 95 [netV n, .int .i64 w, bondV b, .int .i64 x, .int .i64 y] (bondV (laterB (bwish n x y) (votesAt n w) b)) := by
  have hp1 := sits_pure n.sites
  have hp2 := subs_pure n.subs
  have hp3 := weds_pure n.weds
  have hT := hOk.1
  have hst := hT.2.2.1
  obtain ⟨⟨hw0, hwl⟩, hB2, hB3, hB4⟩ := hB
  have hx := cyc_bound hT hB3
  have hy := cyc_bound hT hB4
  obtain ⟨j, rfl⟩ := Int.eq_ofNat_of_zero_le hw0
  have hjl : j < n.weds.length := by omega
  have hv : votesAt n j = n.weds[j].votes := by simp [votesAt, hjl]
  have he : nth (n.weds.map wedV) j = wedV n.weds[j] := nth_map hjl
  have hbw : (decide (x - y ≤ n.step) && decide (y - x ≤ n.step)) = bwish n x y := rfl
  obtain ⟨t, m⟩ := b
  simp only at hB2
  have hm := inM_iff.1 hB2
  rw [hv]
  generalize n.weds[j] = u at *
  generalize bwish n x y = W at *
  unfold netV bondV
  refine fnD_of mixed Tryd.func95 rfl rfl (by simp [Tryd.ntmps95]) fun hwf E => ?_
  simp (disch := omega) [Tryd.ntmps95, go_sem, hbw]
  refine br_of (fun h6 => ?_) (fun h6 => ?_) <;> simp at h6
  · have e4 : laterB W u.votes (t, m) = (W, 0) := by unfold laterB; rw [if_pos h6]
    rw [e4]
    simp (disch := omega) [go_sem]
  · simp (disch := omega) [go_sem, he, wedV]
    refine ⟨by omega, by kernel_rfl, ?_⟩
    refine br_of (fun h7 => ?_) (fun h7 => ?_) <;> simp at h7
    · have e4 : laterB W u.votes (t, m) = (W, 0) := by unfold laterB; rw [if_neg h6, if_pos h7]
      rw [e4]
      simp (disch := omega) [go_sem]
    · have e4 : laterB W u.votes (t, m) = (t, m + 1) := by unfold laterB; rw [if_neg h6, if_neg (by simp only; omega)]
      rw [e4]
      simp (disch := omega) [go_sem]

theorem r28next_spec (n : NetN) (w : Int) (b : Bool × Int) (x y : Int) : FnD Tryd.prog 35 [netV n, .int .i64 w, bondV b, .int .i64 x, .int .i64 y] (.tup [bondV (bondN n w b x y), .int .i64 (bondC n w b x y)]) := by
  have hp1 := sits_pure n.sites
  have hp2 := subs_pure n.subs
  have hp3 := weds_pure n.weds
  have hc := r6check_spec n
  have ho := fun h c => one_spec n c h
  have hl := fun h1 h2 => r28later_spec n w b x y h1 h2
  have hmay := r28may_spec b
  have hnv : netV n = .agg [.sl 12 (n.sites.map sitV), .sl 2 (n.subs.map subV), .sl 4 (n.weds.map wedV), .int .i64 n.low, .int .i64 n.high, .int .i64 n.step] := rfl
  obtain ⟨t, m⟩ := b
  have hbv : bondV (t, m) = .agg [.bool t, .int .i64 m] := rfl
  rw [hnv] at hc ho hl ⊢
  rw [hbv] at hmay hl ⊢
  have bad : NetOk n → ¬ bondOk n w (t, m) x y → bondC n w (t, m) x y = 2 ∧ bondV (bondN n w (t, m) x y) = .agg [.bool false, .int .i64 0] := fun h1 h2 => by
    have e := bondC_arg h1 h2
    exact ⟨e, by rw [bondN_bad (by rw [e]; decide)]; rfl⟩
  refine fnD_of mixed Tryd.func35 rfl rfl (by simp [Tryd.ntmps35]) fun hwf E => ?_
  simp (disch := omega) [go_sem] at hwf
  simp (disch := omega) [Tryd.ntmps35, go_sem]
  refine callK_data hc [] (by simp [go_sem, hp1, hp2, hp3]) (.inl rfl) (by simp [go_sem]) (fun _ => ?_)
  by_cases hOk : NetOk n
  · have bad := bad hOk
    rw [netN_ok hOk]
    by_cases hw : 0 ≤ w ∧ w < n.weds.length
    · have w1 : ¬ w < 0 := by omega
      have w2 : ¬ (n.weds.length : Int) ≤ w := by omega
      simp (disch := omega) [go_sem, w1, w2]
      refine callK_bool hmay [] (by simp [go_sem]) (fun h3 => ?_) (fun h3 => ?_)
      · simp (disch := omega) [go_sem]
        refine callK_bool (ho hOk.1 x) [] (by simp [go_sem, hp1, hp2, hp3]) (fun h4 => ?_) (fun h4 => ?_)
        · simp (disch := omega) [go_sem]
          refine callK_bool (ho hOk.1 y) [] (by simp [go_sem, hp1, hp2, hp3]) (fun h5 => ?_) (fun h5 => ?_)
          · have hB : bondOk n w (t, m) x y := ⟨hw, h3, of_decide_eq_true h4, of_decide_eq_true h5⟩
            have e1 := bondC_ok hOk hB
            have e2 := bondN_ok e1
            have hl := hl hOk hB
            rw [e2]
            generalize laterB (bwish n x y) (votesAt n w) (t, m) = r at *
            obtain ⟨rt, rm⟩ := r
            simp (disch := omega) [go_sem]
            refine callK_data hl [] (by simp [go_sem, hp1, hp2, hp3]) (.inl rfl) (by simp [go_sem, bondV]) (fun _ => ?_)
            simp (disch := omega) [go_sem, bondV, e1]
          · obtain ⟨e1, e2⟩ := bad (fun h => of_decide_eq_false h5 h.2.2.2)
            simp (disch := omega) [go_sem, e1, e2]
        · obtain ⟨e1, e2⟩ := bad (fun h => of_decide_eq_false h4 h.2.2.1)
          simp (disch := omega) [go_sem, e1, e2]
      · obtain ⟨e1, e2⟩ := bad (fun h => by have := h.2.1; simp only at h3 this; rw [this] at h3; cases h3)
        simp (disch := omega) [go_sem, e1, e2]
    · obtain ⟨e1, e2⟩ := bad (fun h => hw h.1)
      by_cases w1 : w < 0
      · simp (disch := omega) [go_sem, w1, e1, e2]
      · have w2 : (n.weds.length : Int) ≤ w := by omega
        simp (disch := omega) [go_sem, w1, w2, e1, e2]
  · rw [netN_bad hOk]
    have e := bondC_net (w := w) (b := (t, m)) (x := x) (y := y) hOk
    have e2 : bondV (bondN n w (t, m) x y) = .agg [.bool false, .int .i64 0] := by rw [bondN_bad (by rw [e]; decide)]; rfl
    simp (disch := omega) [go_sem, e, e2]

theorem wvotes_spec (n : NetN) (w : Int) (b : Bool × Int) (x y : Int) : FnD Tryd.prog 5 [netV n, .int .i64 w, bondV b, .int .i64 x, .int .i64 y] (.bool true) tabG := by
  have hp1 := sits_pure n.sites
  have hp2 := subs_pure n.subs
  have hp3 := weds_pure n.weds
  have hg := greatN_spec n
  have hn := bond_spec n w b x y
  have rn := r28next_spec n w b x y
  have hnv : netV n = .agg [.sl 12 (n.sites.map sitV), .sl 2 (n.subs.map subV), .sl 4 (n.weds.map wedV), .int .i64 n.low, .int .i64 n.high, .int .i64 n.step] := rfl
  rw [hnv] at hg hn rn ⊢
  obtain ⟨t, m⟩ := b
  have hbv : bondV (t, m) = .agg [.bool t, .int .i64 m] := rfl
  rw [hbv] at hn rn ⊢
  generalize bondN n w (t, m) x y = r at *
  obtain ⟨rt, rm⟩ := r
  have hvr : bondV (rt, rm) = .agg [.bool rt, .int .i64 rm] := rfl
  rw [hvr] at hn rn
  refine fnD_of mixed Tryd.func5 rfl rfl (by simp [Tryd.ntmps5]) fun hwf E => ?_
  simp (disch := omega) [Tryd.ntmps5, go_sem]
  refine callK_bool hg [] (by simp [go_sem, hp1, hp2, hp3]) (fun h1 => ?_) (fun h1 => ?_)
  · simp (disch := omega) [go_sem]
  · simp (disch := omega) [go_sem]
    refine callK_data hn [] (by simp [go_sem, hp1, hp2, hp3]) (.inl rfl) (by simp [go_sem]) (fun _ => ?_) (by simp [tabG, go_sem])
    simp (disch := omega) [go_sem]
    refine callK_data rn [] (by simp [go_sem, hp1, hp2, hp3]) (.inl rfl) (by simp [go_sem]) (fun _ => ?_)
    simp (disch := omega) [go_sem]
end Go.Proofs.YthjojamcolmbdaaDoor
