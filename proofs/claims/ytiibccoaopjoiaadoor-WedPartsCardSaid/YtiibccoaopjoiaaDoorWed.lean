/- The layer wed: bonds. -/
import Derived.Test.YtiibccoaopjoiaaDoorCyc
import Derived.Test.YtiibccoaopjoiaaDoorGreat
import Derived.Test.YtiibccoaopjoiaaDoorRegP
set_option linter.unusedSimpArgs false
set_option linter.unusedVariables false
namespace Go.Proofs.YtiibccoaopjoiaaDoor
open Go.AM Go.RowKit
set_option maxRecDepth 100000

def bondV (b : Bool × Int) : V := .agg [.bool b.1, .int .i64 b.2]
theorem may_spec (b : Bool × Int) : FnD Tryd.prog 125 [bondV b] (.bool (inM b.2)) := by
  obtain ⟨t, m⟩ := b
  unfold bondV
  refine fnD_of mixed Tryd.func125 rfl rfl (by simp [Tryd.ntmps125]) fun hwf E => ?_
  simp (disch := omega) [Tryd.ntmps125, go_sem]
  rfl
def votesAt (n : NetN) (w : Int) : Int := ((n.weds[w.toNat]?).map WedN.votes).getD 0
def bondOk (n : NetN) (w : Int) (b : Bool × Int) (x y : Int) : Prop := (0 ≤ w ∧ w < n.weds.length) ∧ inM b.2 = true ∧ x ∈ cycN n (cycK n + 1) ∧ y ∈ cycN n (cycK n + 1)
noncomputable instance (n : NetN) (w : Int) (b : Bool × Int) (x y : Int) : Decidable (bondOk n w b x y) := Classical.propDecidable _
def bwish (n : NetN) (x y : Int) : Bool := decide (x - y ≤ n.step) && decide (y - x ≤ n.step)
/-- A bond a vote later. -/
def laterB (wish : Bool) (votes : Int) (b : Bool × Int) : Bool × Int := if wish = b.1 then (wish, 0) else if votes ≤ b.2 + 1 then (wish, 0) else (b.1, b.2 + 1)
noncomputable def bondC (n : NetN) (w : Int) (b : Bool × Int) (x y : Int) : Int := if NetOk n then if bondOk n w b x y then 0 else 2 else 60
noncomputable def bondN (n : NetN) (w : Int) (b : Bool × Int) (x y : Int) : Bool × Int := if bondC n w b x y = 0 then laterB (bwish n x y) (votesAt n w) b else (false, 0)
section
variable {n : NetN} {w : Int} {b : Bool × Int} {x y : Int}
theorem bondC_net (h : ¬ NetOk n) : bondC n w b x y = 60 := by unfold bondC; rw [if_neg h]
theorem bondC_arg (h : NetOk n) (h2 : ¬ bondOk n w b x y) : bondC n w b x y = 2 := by unfold bondC; rw [if_pos h, if_neg h2]
theorem bondC_ok (h : NetOk n) (h2 : bondOk n w b x y) : bondC n w b x y = 0 := by unfold bondC; rw [if_pos h, if_pos h2]
theorem bondN_bad (h : bondC n w b x y ≠ 0) : bondN n w b x y = (false, 0) := by unfold bondN; rw [if_neg h]
theorem bondN_ok (h : bondC n w b x y = 0) : bondN n w b x y = laterB (bwish n x y) (votesAt n w) b := by unfold bondN; rw [if_pos h]
end
set_option maxHeartbeats 2000000 in
theorem bond_spec (n : NetN) (w : Int) (b : Bool × Int) (x y : Int) : FnD Tryd.prog 58 [netV n, .int .i64 w, bondV b, .int .i64 x, .int .i64 y] (.tup [bondV (bondN n w b x y), .int .i64 (bondC n w b x y)]) tabG := by
  have hp1 := sits_pure n.sites
  have hp2 := subs_pure n.subs
  have hp3 := weds_pure n.weds
  have hc := cycles_spec n
  have hmay := may_spec b
  have hnv : netV n = .agg [.sl 12 (n.sites.map sitV), .sl 2 (n.subs.map subV), .sl 4 (n.weds.map wedV), .int .i64 n.low, .int .i64 n.high, .int .i64 n.step] := rfl
  rw [hnv] at hc ⊢
  obtain ⟨t, m⟩ := b
  have hbv : bondV (t, m) = .agg [.bool t, .int .i64 m] := rfl
  rw [hbv] at hmay ⊢
  have bad : NetOk n → ¬ bondOk n w (t, m) x y → bondC n w (t, m) x y = 2 ∧ bondV (bondN n w (t, m) x y) = .agg [.bool false, .int .i64 0] := fun h1 h2 => by
    have e := bondC_arg h1 h2
    exact ⟨e, by rw [bondN_bad (by rw [e]; decide)]; rfl⟩
  refine fnD_of mixed Tryd.func58 rfl rfl (by simp [Tryd.ntmps58]) fun hwf E => ?_
  simp (disch := omega) [go_sem] at hwf
  simp (disch := omega) [Tryd.ntmps58, go_sem]
  refine callK_data hc [] (by simp [go_sem, hp1, hp2, hp3]) (.inl rfl) (by simp [go_sem, ints_pure]) (fun _ => ?_) (by simp [tabG, go_sem])
  by_cases hOk : NetOk n
  · have hT := hOk.1
    have bad := bad hOk
    rw [netN_ok hOk, allCyc_ok hOk]
    simp (disch := omega) [go_sem]
    refine br_of (fun h1 => ?_) (fun h1 => ?_) <;> simp at h1
    · obtain ⟨e1, e2⟩ := bad (fun h => by have := h.1; omega)
      simp (disch := omega) [go_sem, h1, e1, e2]
    · simp (disch := omega) [go_sem]
      refine br_of (fun h2 => ?_) (fun h2 => ?_) <;> simp at h2
      · obtain ⟨e1, e2⟩ := bad (fun h => by have := h.1; omega)
        simp (disch := omega) [go_sem, h2, e1, e2]
      · simp (disch := omega) [go_sem]
        refine callK_bool hmay [] (by simp [go_sem]) (fun h3 => ?_) (fun h3 => ?_)
        · simp (disch := omega) [go_sem]
          refine callK_bool (contains_spec (cycN n (cycK n + 1)) x) [] (by simp [go_sem, ints_pure]) (fun h4 => ?_) (fun h4 => ?_)
          · simp (disch := omega) [go_sem]
            refine callK_bool (contains_spec (cycN n (cycK n + 1)) y) [] (by simp [go_sem, ints_pure]) (fun h5 => ?_) (fun h5 => ?_)
            · simp at h4 h5
              have hx := cyc_bound hT h4
              have hy := cyc_bound hT h5
              have hm := inM_iff.1 h3
              simp only at hm
              have hst := hT.2.2.1
              obtain ⟨j, rfl⟩ := Int.eq_ofNat_of_zero_le h1
              have hjl : j < n.weds.length := by omega
              have e1 := bondC_ok hOk (w := (j : Int)) (b := (t, m)) ⟨⟨h1, by omega⟩, h3, h4, h5⟩
              have e2 := bondN_ok e1
              have hv : votesAt n j = n.weds[j].votes := by simp [votesAt, hjl]
              have hvb : 1 ≤ n.weds[j].votes ∧ n.weds[j].votes ≤ 1048576 := (hOk.2.2.2.2.2 _ (List.getElem_mem hjl)).2.2.2.1
              have he : nth (n.weds.map wedV) j = wedV n.weds[j] := nth_map hjl
              have hmx : decide ((if x < y then y else x) - (if y < x then y else x) ≤ n.step) = bwish n x y := by
                rw [Bool.eq_iff_iff]
                simp only [bwish, Bool.and_eq_true, decide_eq_true_eq]
                split <;> split <;> omega
              rw [e2, hv]
              generalize n.weds[j] = u at *
              generalize bwish n x y = W at *
              simp (disch := omega) [go_sem, e1, hmx]
              refine br_of (fun h6 => ?_) (fun h6 => ?_) <;> simp at h6
              · have e4 : laterB W u.votes (t, m) = (W, 0) := by unfold laterB; rw [if_pos h6]
                rw [e4]
                simp (disch := omega) [go_sem, bondV]
              · simp (disch := omega) [go_sem, he, wedV]
                refine ⟨by omega, .inl (by kernel_rfl), ?_⟩
                refine br_of (fun h7 => ?_) (fun h7 => ?_) <;> simp at h7
                · have e4 : laterB W u.votes (t, m) = (W, 0) := by unfold laterB; rw [if_neg h6, if_pos h7]
                  rw [e4]
                  simp (disch := omega) [go_sem, bondV]
                · have e4 : laterB W u.votes (t, m) = (t, m + 1) := by unfold laterB; rw [if_neg h6, if_neg (by simp only; omega)]
                  rw [e4]
                  simp (disch := omega) [go_sem, bondV]
            · simp at h5
              obtain ⟨e1, e2⟩ := bad (fun h => h5 h.2.2.2)
              simp (disch := omega) [go_sem, e1, e2]
          · simp at h4
            obtain ⟨e1, e2⟩ := bad (fun h => h4 h.2.2.1)
            simp (disch := omega) [go_sem, e1, e2]
        · obtain ⟨e1, e2⟩ := bad (fun h => by have := h.2.1; simp only at h3 this; rw [this] at h3; cases h3)
          simp (disch := omega) [go_sem, e1, e2]
  · rw [netN_bad hOk, allCyc_bad hOk]
    have e := bondC_net (w := w) (b := (t, m)) (x := x) (y := y) hOk
    have e2 : bondV (bondN n w (t, m) x y) = .agg [.bool false, .int .i64 0] := by rw [bondN_bad (by rw [e]; decide)]; rfl
    simp (disch := omega) [go_sem, e, e2]
end Go.Proofs.YtiibccoaopjoiaaDoor
