/- WedComes: the same cycles bring a bond to what they wish. -/
import Derived.Test.YthjojamcolmbdaaDoorWed
namespace Go.Proofs.YthjojamcolmbdaaDoor
open Go.AM Go.RowKit
set_option maxRecDepth 100000

theorem site28_spec (id : Int) : FnD Tryd.prog 138 [.int .i64 id] (sitV (siteN id)) := by
  refine fnD_of mixed Tryd.func138 rfl rfl (by simp [Tryd.ntmps138]) fun hwf E => ?_
  simp (disch := omega) [go_sem] at hwf
  simp (disch := omega) [Tryd.ntmps138, go_sem, sitV, siteN, grpV, phaV, sets, rows, ints]
theorem region28_spec : FnD Tryd.prog 96 [] (netV regionN) := by
  have h0 := site28_spec 0
  have h1 := site28_spec 1
  refine fnD_of mixed Tryd.func96 rfl rfl (by simp [Tryd.ntmps96]) fun hwf E => ?_
  simp (disch := omega) [Tryd.ntmps96, go_sem]
  refine callK_data h0 [] (by simp [go_sem]) (.inl rfl) (sit_pure _) (fun _ => ?_)
  simp (disch := omega) [go_sem]
  refine callK_data h1 [] (by simp [go_sem]) (.inl rfl) (sit_pure _) (fun _ => ?_)
  simp (disch := omega) [go_sem, sitV, siteN, grpV, phaV, sets, rows, ints, netV, regionN, subV, wedV]


theorem bond_lives (b : Bool × Int) (h : b = (false, 0) ∨ b = (false, 1) ∨ b = (false, 2)) :
    bondC regionN 0 b 8 12 = 0 ∧ bondN regionN 0 b 8 12 = (if b.2 = 2 then (true, 0) else (false, b.2 + 1)) := by
  have h8 : (8 : Int) ∈ cycN regionN (cycK regionN + 1) := by decide
  have h12 : (12 : Int) ∈ cycN regionN (cycK regionN + 1) := by decide
  rcases h with rfl | rfl | rfl
  all_goals
    refine ⟨bondC_ok regionN_ok ⟨by decide, by decide, h8, h12⟩, ?_⟩
    rw [bondN_ok (bondC_ok regionN_ok ⟨by decide, by decide, h8, h12⟩)]
    decide
theorem alive28_spec : FnD Tryd.prog 36 [] (.bool true) tabG := by
  have hr := region28_spec
  have hn := fun b => bond_spec regionN 0 b 8 12
  refine fnD_of mixed Tryd.func36 rfl rfl (by simp [Tryd.ntmps36]) fun hwf E => ?_
  simp (disch := omega) [Tryd.ntmps36, go_sem]
  refine awz_loop mixed (fun k : Nat => ⟨[(2, .int .i64 k), (1, .ptr 32 1 0 0), (0, .bool false)], [(32, ⟨.box, 61, 2, [bondV (if k = 3 then (true, 0) else (false, (k : Int)))]⟩)], 1024, [], 33, 0, tabG⟩)
    (fun k => k ≤ 3) (fun k => 3 - k) 0 (by omega) ?_ ?_
  · refine Le.mk [(32, some 32)] [32] ⟨rfl, rfl, rfl⟩ ?_ ?_ ?_ <;> simp [go_sem, bondV]
  · intro k hk
    have hc : k = 0 ∨ k = 1 ∨ k = 2 ∨ k = 3 := by omega
    rcases hc with rfl | rfl | rfl | rfl
    · obtain ⟨e1, e2⟩ := bond_lives (false, 0) (by simp)
      simp (disch := omega) [go_sem, bondV]
      refine callK_data hr [] (by simp [go_sem]) (.inl rfl) (net_pure _) (fun _ => ?_)
      simp (disch := omega) [go_sem]
      refine callK_data (hn (false, 0)) [] (by simp [go_sem, net_pure, bondV]) (.inl rfl) (by simp [go_sem, bondV]) (fun _ => ?_) (by simp [tabG, go_sem])
      rw [e1, e2]
      simp (disch := omega) [go_sem, bondV]
      refine ⟨by kernel_rfl, ?_⟩
      refine round_of 1 (by omega) (by omega) (Le.mk [(32, some 32)] [32] ⟨rfl, rfl, rfl⟩ ?_ ?_ ?_) <;> simp [go_sem, bondV]
    · obtain ⟨e1, e2⟩ := bond_lives (false, 1) (by simp)
      simp (disch := omega) [go_sem, bondV]
      refine callK_data hr [] (by simp [go_sem]) (.inl rfl) (net_pure _) (fun _ => ?_)
      simp (disch := omega) [go_sem]
      refine callK_data (hn (false, 1)) [] (by simp [go_sem, net_pure, bondV]) (.inl rfl) (by simp [go_sem, bondV]) (fun _ => ?_) (by simp [tabG, go_sem])
      rw [e1, e2]
      simp (disch := omega) [go_sem, bondV]
      refine ⟨by kernel_rfl, ?_⟩
      refine round_of 2 (by omega) (by omega) (Le.mk [(32, some 32)] [32] ⟨rfl, rfl, rfl⟩ ?_ ?_ ?_) <;> simp [go_sem, bondV]
    · obtain ⟨e1, e2⟩ := bond_lives (false, 2) (by simp)
      simp (disch := omega) [go_sem, bondV]
      refine callK_data hr [] (by simp [go_sem]) (.inl rfl) (net_pure _) (fun _ => ?_)
      simp (disch := omega) [go_sem]
      refine callK_data (hn (false, 2)) [] (by simp [go_sem, net_pure, bondV]) (.inl rfl) (by simp [go_sem, bondV]) (fun _ => ?_) (by simp [tabG, go_sem])
      rw [e1, e2]
      simp (disch := omega) [go_sem, bondV]
      refine ⟨by kernel_rfl, ?_⟩
      refine round_of 3 (by omega) (by omega) (Le.mk [(32, some 32)] [32] ⟨rfl, rfl, rfl⟩ ?_ ?_ ?_) <;> simp [go_sem, bondV]
    · simp (disch := omega) [go_sem, bondV]

def comesInv (W : Bool) (votes : Int) (k : Nat) (b : Bool × Int) : Prop := inM b.2 = true ∧ (b.1 ≠ W → (k : Int) ≤ b.2 ∧ (0 < k → b.2 < votes)) ∧ (b.1 = W → 0 < k → b.2 = 0)
theorem comes_round {W : Bool} {votes : Int} {k : Nat} {b : Bool × Int} (hv : 1 ≤ votes ∧ votes ≤ 300) (h : comesInv W votes k b) {r : Bool × Int} (hr : r = laterB W votes b) :
    comesInv W votes (k + 1) r ∧ (b.1 = W → r.1 = W) ∧ (votes ≤ k → r.1 = W) := by
  obtain ⟨t, m⟩ := b
  obtain ⟨h1, h2, h3⟩ := h
  simp only at h1 h2 h3
  have h1' := inM_iff.1 h1
  unfold laterB at hr
  simp only at hr
  split at hr
  · subst hr
    exact ⟨⟨rfl, fun h => absurd rfl h, fun _ _ => rfl⟩, fun _ => rfl, fun _ => rfl⟩
  · rename_i hne
    have hne' : t ≠ W := fun e => hne e.symm
    obtain ⟨h4, h5⟩ := h2 hne'
    split at hr
    · subst hr
      exact ⟨⟨rfl, fun h => absurd rfl h, fun _ _ => rfl⟩, fun _ => rfl, fun _ => rfl⟩
    · subst hr
      refine ⟨⟨inM_iff.2 (by simp only; omega), fun _ => ⟨by simp only; omega, fun _ => by simp only; omega⟩, fun e => absurd e hne'⟩, fun e => absurd e hne', fun hk => by omega⟩
theorem comes_end {W : Bool} {votes : Int} {k : Nat} {b : Bool × Int} (h : comesInv W votes k b) (hv : 1 ≤ votes) (hk : votes ≤ k) : b = (W, 0) := by
  obtain ⟨t, m⟩ := b
  obtain ⟨h1, h2, h3⟩ := h
  simp only at h1 h2 h3
  have hk0 : 0 < k := by omega
  by_cases e : t = W
  · rw [h3 e hk0, e]
  · obtain ⟨h4, h5⟩ := h2 e
    have := h5 hk0
    omega

def coF (n : NetN) (w x y : Int) (W : Bool) (k : Nat × (Bool × Int)) : St :=
  ⟨[(15, .int .i64 k.1), (14, .bool W), (7, .ptr 16 1 0 0), (5, .ptr 0 1 0 0), (1, .int .i64 w), (3, .int .i64 x), (4, .int .i64 y), (10, .bool false)], [(16, ⟨.box, 61, 2, [bondV k.2]⟩), (0, ⟨.box, 59, 6, [netV n]⟩)], 1024, [], 115, 0, tabG⟩

set_option maxHeartbeats 4000000 in
theorem comes_spec (n : NetN) (w : Int) (b : Bool × Int) (x y : Int) : FnD Tryd.prog 6 [netV n, .int .i64 w, bondV b, .int .i64 x, .int .i64 y] (.bool true) tabG := by
  have hp1 := sits_pure n.sites
  have hp2 := subs_pure n.subs
  have hp3 := weds_pure n.weds
  have hg := greatN_spec n
  have hn := fun b => bond_spec n w b x y
  have hnv : netV n = .agg [.sl 12 (n.sites.map sitV), .sl 2 (n.subs.map subV), .sl 4 (n.weds.map wedV), .int .i64 n.low, .int .i64 n.high, .int .i64 n.step] := rfl
  rw [hnv] at hg hn ⊢
  obtain ⟨t, m⟩ := b
  have hbv : bondV (t, m) = .agg [.bool t, .int .i64 m] := rfl
  have hn0 := hn (t, m)
  rw [hbv] at hn0 ⊢
  refine fnD_of mixed Tryd.func6 rfl rfl (by simp [Tryd.ntmps6]) fun hwf E => ?_
  simp (disch := omega) [Tryd.ntmps6, go_sem]
  refine callK_data alive28_spec [] (by simp [go_sem]) (.inl rfl) (by simp [go_sem]) (fun _ => ?_) (by simp [tabG, go_sem])
  simp (disch := omega) [go_sem]
  refine callK_bool hg [] (by simp [go_sem, hp1, hp2, hp3]) (fun h1 => ?_) (fun h1 => ?_)
  · simp (disch := omega) [go_sem]
  · simp (disch := omega) [go_sem]
    refine callK_data hn0 [] (by simp [go_sem, hp1, hp2, hp3]) (.inl rfl) (by simp [go_sem, bondV]) (fun _ => ?_) (by simp [tabG, go_sem])
    have hpw : (∃ z, partV Tryd.prog 3 (nth (n.weds.map wedV) w.toNat) 2 = some (.int .i64 z)) ∨ partV Tryd.prog 3 (nth (n.weds.map wedV) w.toNat) 2 = none := by
      by_cases h : w.toNat < n.weds.length
      · left
        refine ⟨n.weds[w.toNat].votes, ?_⟩
        rw [show nth (n.weds.map wedV) w.toNat = wedV n.weds[w.toNat] from nth_map h]
        simp [wedV, go_sem]
      · right
        rw [nth_eq, List.getD_eq_getElem?_getD, List.getElem?_eq_none (by simp; omega)]
        simp [partV, go_sem]
    by_cases hOk : NetOk n
    · by_cases hB : bondOk n w (t, m) x y
      · have hT := hOk.1
        have hst := hT.2.2.1
        have e1 := bondC_ok hOk hB
        obtain ⟨⟨hw0, hwl⟩, hB2, hB3, hB4⟩ := hB
        have hx := cyc_bound hT hB3
        have hy := cyc_bound hT hB4
        obtain ⟨j, rfl⟩ := Int.eq_ofNat_of_zero_le hw0
        have hjl : j < n.weds.length := by omega
        have hv : votesAt n j = n.weds[j].votes := by simp [votesAt, hjl]
        have hvb : 1 ≤ n.weds[j].votes ∧ n.weds[j].votes ≤ 1048576 := (hOk.2.2.2.2.2 _ (List.getElem_mem hjl)).2.2.2.1
        have he : nth (n.weds.map wedV) j = wedV n.weds[j] := nth_map hjl
        have hbw : (decide (x - y ≤ n.step) && decide (y - x ≤ n.step)) = bwish n x y := rfl
        have hno : ∀ b : Bool × Int, inM b.2 = true → bondC n j b x y = 0 ∧ bondN n j b x y = laterB (bwish n x y) n.weds[j].votes b := fun b hb => by
          have e := bondC_ok hOk (w := (j : Int)) (b := b) ⟨⟨hw0, hwl⟩, hb, hB3, hB4⟩
          exact ⟨e, by rw [bondN_ok e, hv]⟩
        clear hv
        generalize n.weds[j] = u at *
        simp (disch := omega) [go_sem, bondV, e1, he, wedV]
        refine ⟨hjl, ?_⟩
        refine br_of (fun h2 => ?_) (fun h2 => ?_) <;> simp at h2
        · simp (disch := omega) [go_sem]
        · have hv0 : comesInv (bwish n x y) u.votes 0 (t, m) := ⟨hB2, fun _ => ⟨by have := inM_iff.1 hB2; simp only at this ⊢; omega, fun h => by omega⟩, fun _ h => by omega⟩
          generalize bwish n x y = W at *
          simp (disch := omega) [go_sem, hbw]
          refine awz_loop mixed (coF n j x y W) (fun k => (k.1 : Int) ≤ u.votes + 2 ∧ comesInv W u.votes k.1 k.2) (fun k => (u.votes + 2 - k.1).toNat) (0, (t, m)) ⟨by simp; omega, hv0⟩ ?_ ?_
          · refine Le.mk [(0, some 0), (16, some 16)] [0, 16] ⟨rfl, rfl, rfl⟩ ?_ ?_ ?_ <;> simp [go_sem, coF, netV, bondV, hp1, hp2, hp3]
          · rintro ⟨k, b⟩ ⟨hk, hu⟩
            simp only at hk hu
            obtain ⟨e2, e3⟩ := hno b hu.1
            have hnu := hn b
            have hR := comes_round ⟨hvb.1, h2⟩ hu rfl
            have hE := comes_end hu hvb.1
            rw [e2, e3] at hnu
            generalize laterB W u.votes b = r at *
            obtain ⟨hR1, hR2, hR3⟩ := hR
            obtain ⟨bt, bm⟩ := b
            obtain ⟨rt, rm⟩ := r
            simp only at *
            have hvu : bondV (bt, bm) = .agg [.bool bt, .int .i64 bm] := rfl
            have hvr : bondV (rt, rm) = .agg [.bool rt, .int .i64 rm] := rfl
            rw [hvu, hvr] at hnu
            simp (disch := omega) [go_sem, coF, netV, bondV, he, wedV]
            refine ⟨hjl, ?_⟩
            refine br_of (fun h3 => ?_) (fun h3 => ?_) <;> simp at h3
            · simp (disch := omega) [go_sem]
              refine callK_data hnu [] (by simp [go_sem, hp1, hp2, hp3]) (.inl rfl) (by simp [go_sem]) (fun _ => ?_) (by simp [tabG, go_sem])
              simp (disch := omega) [go_sem, he, wedV]
              refine ⟨fun _ => hjl, fun h => (Classical.em (bt = W)).elim (fun e => .inr (h e)) .inl, ?_⟩
              refine br_of (fun h4 => ?_) (fun h4 => ?_)
              · simp at h4
                rcases h4 with ⟨h5, h6⟩ | ⟨h5, h6⟩
                · exact absurd (hR2 h5) h6
                · have := hR3 h5
                  subst this
                  simp at h6
              · simp (disch := omega) [go_sem]
                refine round_of (k + 1, (rt, rm)) ⟨by simp only; omega, hR1⟩ (by simp only; omega) (Le.mk [(0, some 0), (16, some 16)] [0, 16] ⟨rfl, rfl, rfl⟩ ?_ ?_ ?_) <;> simp [go_sem, coF, netV, bondV, hp1, hp2, hp3]
            · simp (disch := omega) [go_sem]
              have := hE (by omega)
              simpa using this
      · have e1 := bondC_arg hOk hB
        rcases hpw with ⟨z, hpw⟩ | hpw <;> simp (disch := omega) [go_sem, bondV, e1, hpw]
    · have e1 := bondC_net (w := w) (b := (t, m)) (x := x) (y := y) hOk
      rcases hpw with ⟨z, hpw⟩ | hpw <;> simp (disch := omega) [go_sem, bondV, e1, hpw]
end Go.Proofs.YthjojamcolmbdaaDoor
