/- SplitStays: without loads the plan that goes stays; one that is wished three times goes. -/
import Derived.Test.YthjojamcolmbdaaDoorBest26
set_option linter.unusedSimpArgs false
set_option linter.unusedVariables false
namespace Go.Proofs.YthjojamcolmbdaaDoor
open Go.AM Go.RowKit
set_option maxRecDepth 100000

theorem snext_hears {s : Sit} {v x y c n : Int} {l : List Int} (h : wish26E s v x y c l = 0) (hn : wish26V s v x y c l = n) (hb : inM n = true) {uw um : Int} (h1 : inM uw = true) (h2 : inM um = true) :
    snextN s v uw um c l = (heardN v uw um n 3, 0) := by
  obtain ⟨hOk, hw, hl⟩ := wish26_zero h
  obtain ⟨e1, e2⟩ := wish26_ok (x := uw) (y := um) hOk ⟨hw.1, h1, h2, hw.2.2.2⟩ hl
  have e3 : wish26V s v uw um c l = n := by rw [e2, ← hn, (wish26_ok hOk hw hl).2]
  have hm := manyN_le hOk
  have hv : inM v = true := inM_iff.2 (by have := hw.1; omega)
  unfold snextN
  rw [if_pos e1, e3, tallyN_ok (by rw [hv, h1, h2, hb]; rfl)]
theorem wish26_in {s : Sit} {v x y c : Int} {l : List Int} (h : wish26E s v x y c l = 0) : 0 ≤ wish26V s v x y c l ∧ wish26V s v x y c l < 8 := by
  obtain ⟨hOk, hw, hl⟩ := wish26_zero h
  have hm := manyN_le hOk
  rw [(wish26_ok hOk hw hl).2]
  obtain ⟨n, h1, h2, _⟩ := best_law s v.toNat c l (by have := hw.1; omega)
  rw [h2]; omega
theorem snext_nil (s : Sit) (v x y c : Int) : (wish26E s v x y c [] ≠ 0 ∧ snextN s v x y c [] = ((0, 0, 0), wish26E s v x y c [])) ∨ (wish26E s v x y c [] = 0 ∧ snextN s v x y c [] = ((v, v, 0), 0)) := by
  by_cases h : wish26E s v x y c [] = 0
  · refine .inr ⟨h, ?_⟩
    obtain ⟨hOk, hw, hl⟩ := wish26_zero h
    have hm := manyN_le hOk
    have e : wish26V s v x y c [] = v := by
      rw [(wish26_ok hOk hw hl).2, best_nil s v.toNat c (by have := hw.1; omega)]
      have := hw.1; omega
    rw [snext_hears h e (inM_iff.2 (by have := hw.1; omega)) hw.2.1 hw.2.2.1, heardN_eq rfl]
  · exact .inl ⟨h, by unfold snextN; rw [if_neg h]⟩

def stI (v n : Int) (k : Nat) (u : Int × Int × Int) : Prop := k ≤ 3 ∧ (u.1 = n ∨ (u.1 = v ∧ inM u.2.1 = true ∧ inM u.2.2 = true ∧ k < 3 ∧ (1 ≤ k → u.2.1 = n ∧ (k : Int) ≤ u.2.2)))
theorem st_round {v n : Int} {k : Nat} {u : Int × Int × Int} (hn : inM n = true) (h : stI v n k u) (h1 : u.1 ≠ n) : u.1 = v ∧ inM u.2.1 = true ∧ inM u.2.2 = true ∧ k < 3 ∧ stI v n (k + 1) (heardN v u.2.1 u.2.2 n 3) ∧ ((heardN v u.2.1 u.2.2 n 3).1 = v ∨ (heardN v u.2.1 u.2.2 n 3).1 = n) := by
  obtain ⟨hk, h | ⟨e, h2, h3, h4, h5⟩⟩ := h
  · exact absurd h h1
  · have hne : ¬ n = v := by rw [← e]; exact fun x => h1 x.symm
    have hb := inM_iff.1 h3
    refine ⟨e, h2, h3, h4, ?_⟩
    by_cases hc : n = u.2.1 ∧ 0 < u.2.2
    · by_cases h6 : (3 : Int) ≤ u.2.2 + 1
      · rw [heardN_up hne hc h6]
        exact ⟨⟨by omega, .inl rfl⟩, .inr rfl⟩
      · rw [heardN_more hne hc (by omega)]
        refine ⟨⟨by omega, .inr ⟨rfl, hn, inM_iff.2 (by simp only; omega), ?_, fun _ => ⟨rfl, ?_⟩⟩⟩, .inl rfl⟩
        · by_cases hk0 : k = 0
          · omega
          · have := (h5 (by omega)).2; omega
        · by_cases hk0 : k = 0
          · simp only; omega
          · have := (h5 (by omega)).2
            simp only; omega
    · have hk0 : k = 0 := by
        apply Classical.byContradiction
        intro hk0
        have := h5 (by omega)
        exact hc ⟨this.1.symm, by omega⟩
      rw [heardN_one hne (fun x => by
        apply Classical.byContradiction
        intro hx
        exact hc ⟨x, by omega⟩) (by omega)]
      refine ⟨⟨by omega, .inr ⟨rfl, hn, rfl, by omega, fun _ => ⟨rfl, by simp only; omega⟩⟩⟩, .inl rfl⟩

set_option maxHeartbeats 4000000 in
theorem sstays_spec (s : Sit) (v x y c : Int) (l : List Int) : FnD Tryd.prog 12 [sitV s, voteV (v, x, y), .int .i64 c, .sl 1 (ints l)] (.bool true) tabG := by
  have hpu := (⟨grps_pure s.groups, phas_pure s.phases, eyes_pure s.eyes, plns_pure s.plans, sets_pure s.apart, rows_pure s.between⟩ : _ ∧ _ ∧ _ ∧ _ ∧ _ ∧ _)
  obtain ⟨hp1, hp2, hp3, hp4, hp5, hp6⟩ := hpu
  have hil := ints_pure l
  have ql := long26_spec s ⟨0, 0, []⟩ ⟨0, 0, []⟩ l
  have q0 := snext_spec s v x y c []
  have qw := Wish_spec s v x y c l
  have qn := fun v x y => snext_spec s v x y c l
  have hnil := snext_nil s v x y c
  have hhear := fun (n : Int) (h : wish26E s v x y c l = 0) (hn : wish26V s v x y c l = n) (hb : inM n = true) (uw um : Int) h1 h2 => snext_hears (uw := uw) (um := um) h hn hb h1 h2
  have hin := fun h => wish26_in (s := s) (v := v) (x := x) (y := y) (c := c) (l := l) h
  have hwok := fun h => wish26_zero (s := s) (v := v) (x := x) (y := y) (c := c) (l := l) h
  generalize wish26V s v x y c l = n at *
  generalize wish26E s v x y c l = e at *
  generalize wish26E s v x y c [] = e0 at *
  generalize snextN s v x y c [] = r0 at *
  have hsv : sitV s = .agg [.int .i64 s.id, .sl 3 (s.groups.map grpV), .sl 1 (sets s.apart), .sl 1 (rows s.between), .sl 5 (s.phases.map phaV), .sl 4 (s.eyes.map eyeV), .int .i64 s.watch, .int .i64 s.feed, .int .i64 s.heal, .int .i64 s.low, .int .i64 s.high, .sl 3 (s.plans.map plnV)] := rfl
  have hvv : ∀ v x y, voteV (v, x, y) = .agg [.int .i64 v, .int .i64 x, .int .i64 y] := fun _ _ _ => rfl
  have hpl : plnV ⟨0, 0, []⟩ = .agg [.int .i64 0, .int .i64 0, .sl 1 []] := rfl
  have hin0 : ints [] = [] := rfl
  simp only [hvv, hpl, hin0] at q0 ql qn ⊢
  refine fnD_of mixed Tryd.func12 rfl rfl (by simp [Tryd.ntmps12]) fun hwf E => ?_
  clear hwf
  generalize (greatS s || decide (100 < (([] : List Int).length : Int)) || decide (100 < (([] : List Int).length : Int)) || decide (1100 < (l.length : Int))) = b at *
  simp only [hsv] at ql q0 qw qn ⊢
  simp (disch := omega) [Tryd.ntmps12, go_sem]
  refine callK_data alive26_spec [] (by simp [go_sem]) (.inl rfl) (by simp [go_sem]) (fun _ => ?_) (by simp [tabG, go_sem])
  simp (disch := omega) [go_sem]
  refine callK_data ql [] (by simp [go_sem, hp1, hp2, hp3, hp4, hp5, hp6, hil]) (.inl rfl) (by simp [go_sem]) (fun _ => ?_)
  simp (disch := omega) [go_sem]
  refine br_of (fun h1 => ?_) (fun h1 => ?_)
  · simp (disch := omega) [go_sem]
  · simp (disch := omega) [go_sem]
    refine callK_data q0 [] (by simp [go_sem, hp1, hp2, hp3, hp4, hp5, hp6]) (.inl rfl) (by simp [go_sem, voteE, voteV]) (fun _ => ?_) (by simp [tabG, go_sem])
    rcases hnil with ⟨hz, rfl⟩ | ⟨hz, rfl⟩
    · simp (disch := omega) [go_sem, voteE, voteV]
      refine br_of (fun h2 => ?_) (fun h2 => ?_)
      · simp (disch := omega) [go_sem]
      · simp at h2; exact absurd h2 hz
    · simp (disch := omega) [go_sem, voteE, voteV]
      refine callK_data qw [] (by simp [go_sem, hp1, hp2, hp3, hp4, hp5, hp6, hil]) (.inl rfl) (by simp [go_sem]) (fun _ => ?_) (by simp [tabG, go_sem])
      simp (disch := omega) [go_sem]
      refine br_of (fun h2 => ?_) (fun h2 => ?_) <;> simp at h2
      · simp (disch := omega) [go_sem]
      · have hn8 := hin h2
        have hnM : inM n = true := inM_iff.2 (by omega)
        have hw0 := (hwok h2).2.1
        simp (disch := omega) [go_sem]
        refine awz_loop mixed (fun k : Nat × (Int × Int × Int) => ⟨[(14, .int .i64 k.1), (12, .int .i64 n), (5, .ptr 16 1 0 0), (4, .ptr 0 1 0 0), (3, .sl 1 (ints l)), (2, .int .i64 c)], [(16, ⟨.box, 87, 3, [voteV k.2]⟩), (0, ⟨.box, 29, 12, [sitV s]⟩)], 1024, [], 95, 0, tabG⟩)
          (fun k => stI v n k.1 k.2) (fun k => 3 - k.1) (0, (v, x, y)) ⟨by omega, .inr ⟨rfl, hw0.2.1, hw0.2.2.1, by simp, fun h => by simp at h⟩⟩ ?_ ?_
        · refine Le.mk [(0, some 0), (16, some 16)] [0, 16] ⟨rfl, rfl, rfl⟩ ?_ ?_ ?_ <;> simp [go_sem, sitV, voteV, hp1, hp2, hp3, hp4, hp5, hp6, hil]
        · rintro ⟨k, un, uw, um⟩ hu
          simp only at hu
          have hu3 := hu.1
          simp (disch := omega) [go_sem, sitV, voteV]
          refine br_of (fun hb => ?_) (fun hb => ?_) <;> simp at hb
          · obtain ⟨hb3, hne⟩ := hb
            obtain ⟨g1, g2, g3, g4, g5, g6⟩ := st_round hnM hu hne
            simp only at g1 g2 g3 g5 g6
            subst g1
            have qr := qn un uw um
            rw [hhear n h2 rfl hnM uw um g2 g3] at qr
            generalize heardN un uw um n 3 = r at *
            obtain ⟨rn, rw', rm⟩ := r
            simp only at g6
            simp (disch := omega) [go_sem]
            refine callK_data qr [] (by simp [go_sem, hp1, hp2, hp3, hp4, hp5, hp6, hil]) (.inl rfl) (by simp [go_sem, voteE, voteV]) (fun _ => ?_) (by simp [tabG, go_sem])
            simp (disch := omega) [go_sem, voteE, voteV]
            refine br_of (fun h3 => ?_) (fun h3 => ?_)
            · simp at h3; omega
            · simp (disch := omega) [go_sem]
              refine round_of (k + 1, (rn, rw', rm)) g5 (by simp only; omega) (Le.mk [(0, some 0), (16, some 16)] [0, 16] ⟨rfl, rfl, rfl⟩ ?_ ?_ ?_) <;> simp [go_sem, sitV, voteV, hp1, hp2, hp3, hp4, hp5, hp6, hil]
          · have hne : un = n := by
              apply Classical.byContradiction
              intro hne
              obtain ⟨_, _, _, g4, _⟩ := st_round hnM hu hne
              exact hne (hb (by omega))
            simp (disch := omega) [go_sem]
            exact hne
end Go.Proofs.YthjojamcolmbdaaDoor
