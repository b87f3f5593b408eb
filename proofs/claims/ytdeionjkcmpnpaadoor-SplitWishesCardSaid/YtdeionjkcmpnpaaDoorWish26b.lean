
/- split.Wish: its errors. -/
import Derived.Test.YtdeionjkcmpnpaaDoorWish26
set_option linter.unusedSimpArgs false
set_option linter.unusedVariables false
namespace Go.Proofs.YtdeionjkcmpnpaaDoor
open Go.AM Go.RowKit
set_option maxRecDepth 100000

def wishOk (s : Sit) (v x y c : Int) : Prop := (0 ≤ v ∧ v < manyN s) ∧ inN x 0 1048576 = true ∧ inN y 0 1048576 = true ∧ inN c 0 1048576 = true
noncomputable instance (s : Sit) (v x y c : Int) : Decidable (wishOk s v x y c) := Classical.propDecidable _
noncomputable def wish26E (s : Sit) (v x y c : Int) (l : List Int) : Int := if SiteOk s then (if wishOk s v x y c then loadedN l else 2) else 50
noncomputable def wish26V (s : Sit) (v x y c : Int) (l : List Int) : Int := if wish26E s v x y c l = 0 then bestN s v.toNat c l else 0

set_option maxHeartbeats 4000000 in
theorem Wish_spec (s : Sit) (v x y c : Int) (l : List Int) :
    FnD Tryd.prog 13 [sitV s, .agg [.int .i64 v, .int .i64 x, .int .i64 y], .int .i64 c, .sl 1 (ints l)] (.tup [.int .i64 (wish26V s v x y c l), .int .i64 (wish26E s v x y c l)]) tabG := by
  have hpu := (⟨grps_pure s.groups, phas_pure s.phases, eyes_pure s.eyes, plns_pure s.plans, sets_pure s.apart, rows_pure s.between⟩ : _ ∧ _ ∧ _ ∧ _ ∧ _ ∧ _)
  obtain ⟨hp1, hp2, hp3, hp4, hp5, hp6⟩ := hpu
  have hil := ints_pure l
  by_cases hgood : SiteOk s ∧ wishOk s v x y c ∧ loadedN l = 0
  · obtain ⟨hOk, hw, hl⟩ := hgood
    have e1 : wish26E s v x y c l = 0 := by unfold wish26E; rw [if_pos hOk, if_pos hw]; exact hl
    have e2 : wish26V s v x y c l = bestN s v.toNat c l := by unfold wish26V; rw [if_pos e1]
    rw [e1, e2]
    obtain ⟨i, rfl⟩ := Int.eq_ofNat_of_zero_le hw.1.1
    exact wish_ok s i x y c l hOk (by have := hw.1.2; omega) hw.2.1 hw.2.2.1 hw.2.2.2 hl
  have qc := check_spec s
  have qm := many_spec s
  have ql := loaded_spec l
  have hsv : sitV s = .agg [.int .i64 s.id, .sl 3 (s.groups.map grpV), .sl 1 (sets s.apart), .sl 1 (rows s.between), .sl 5 (s.phases.map phaV), .sl 4 (s.eyes.map eyeV), .int .i64 s.watch, .int .i64 s.feed, .int .i64 s.heal, .int .i64 s.low, .int .i64 s.high, .sl 3 (s.plans.map plnV)] := rfl
  rw [hsv] at qc qm ⊢
  refine fnD_of mixed Tryd.func13 rfl rfl (by simp [Tryd.ntmps13]) fun hwf E => ?_
  clear hwf
  simp (disch := omega) [Tryd.ntmps13, go_sem]
  refine callK_data qc [] (by simp [go_sem, hp1, hp2, hp3, hp4, hp5, hp6]) (.inl rfl) (by simp [go_sem]) (fun _ => ?_) (by simp [tabG, go_sem])
  have bad2 : SiteOk s → ¬ wishOk s v x y c → wish26V s v x y c l = 0 ∧ wish26E s v x y c l = 2 := fun h1 h2 => by
    have e1 : wish26E s v x y c l = 2 := by unfold wish26E; rw [if_pos h1, if_neg h2]
    exact ⟨by unfold wish26V; rw [if_neg (by rw [e1]; decide)], e1⟩
  by_cases hOk : SiteOk s
  · rw [checkN_ok hOk]
    have bad := bad2 hOk
    clear bad2
    by_cases v0 : v < 0
    · obtain ⟨b1, b2⟩ := bad (fun e => by have := e.1.1; omega)
      rw [b1, b2]
      simp (disch := omega) [go_sem, v0]
      exact .inl (by kernel_rfl)
    · simp (disch := omega) [go_sem, v0]
      refine callK_data qm [] (by simp [go_sem, hp1, hp2, hp3, hp4, hp5, hp6]) (.inl rfl) (by simp [go_sem]) (fun _ => ?_)
      by_cases v1 : (manyN s : Int) ≤ v
      · obtain ⟨b1, b2⟩ := bad (fun e => by have := e.1.2; omega)
        rw [b1, b2]
        simp (disch := omega) [go_sem, v0, v1]
        exact .inl (by kernel_rfl)
      · simp (disch := omega) [go_sem, v0, v1]
        refine callK_data (span26_spec x) [] (by simp [go_sem]) (.inl rfl) (by simp [go_sem]) (fun _ => ?_)
        by_cases hx : inN x 0 1048576 = true
        · simp (disch := omega) [go_sem, v0, v1, hx]
          refine callK_data (span26_spec y) [] (by simp [go_sem]) (.inl rfl) (by simp [go_sem]) (fun _ => ?_)
          by_cases hy : inN y 0 1048576 = true
          · simp (disch := omega) [go_sem, v0, v1, hx, hy]
            refine callK_data (span26_spec c) [] (by simp [go_sem]) (.inl rfl) (by simp [go_sem]) (fun _ => ?_)
            by_cases hc : inN c 0 1048576 = true
            · have hw : wishOk s v x y c := ⟨by omega, hx, hy, hc⟩
              have hl : loadedN l ≠ 0 := fun e => hgood ⟨hOk, hw, e⟩
              have e1 : wish26E s v x y c l = loadedN l := by unfold wish26E; rw [if_pos hOk, if_pos hw]
              have e2 : wish26V s v x y c l = 0 := by unfold wish26V; rw [if_neg (by rw [e1]; exact hl)]
              rw [e1, e2]
              simp (disch := omega) [go_sem, v0, v1, hx, hy, hc]
              refine ⟨.inl (by kernel_rfl), ?_⟩
              refine callK_data ql [] (by simp [go_sem, hil]) (.inl rfl) (by simp [go_sem]) (fun _ => ?_) (by simp [tabG, go_sem])
              simp (disch := omega) [go_sem]
              refine br_of (fun h => ?_) (fun h => ?_) <;> simp at h
              · simp (disch := omega) [go_sem]
              · exact absurd h hl
            · obtain ⟨b1, b2⟩ := bad (fun e => hc e.2.2.2)
              rw [b1, b2]
              simp (disch := omega) [go_sem, v0, v1, hx, hy, hc]
              exact .inl (by kernel_rfl)
          · obtain ⟨b1, b2⟩ := bad (fun e => hy e.2.2.1)
            rw [b1, b2]
            simp (disch := omega) [go_sem, v0, v1, hx, hy]
            exact .inl (by kernel_rfl)
        · obtain ⟨b1, b2⟩ := bad (fun e => hx e.2.1)
          rw [b1, b2]
          simp (disch := omega) [go_sem, v0, v1, hx]
          exact .inl (by kernel_rfl)
  · have e1 : wish26E s v x y c l = 50 := by unfold wish26E; rw [if_neg hOk]
    have e2 : wish26V s v x y c l = 0 := by unfold wish26V; rw [if_neg (by rw [e1]; decide)]
    rw [checkN_bad hOk, e1, e2]
    simp (disch := omega) [go_sem]
end Go.Proofs.YtdeionjkcmpnpaaDoor
