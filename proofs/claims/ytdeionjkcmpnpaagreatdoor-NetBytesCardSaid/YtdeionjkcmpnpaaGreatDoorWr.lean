
/- The layer site: plans and sites are written. -/
import Derived.Test.YtdeionjkcmpnpaaGreatDoorRdL
import Derived.Test.YtdeionjkcmpnpaaGreatDoorNetA
set_option linter.unusedSimpArgs false
set_option linter.unusedVariables false
namespace Go.Proofs.YtdeionjkcmpnpaaGreatDoor
open Go.AM Go.RowKit
set_option maxRecDepth 100000

theorem put_num (a l : List Int) (h0 : ∀ x ∈ l, 0 ≤ x) (h1 : a.length ≤ 68719476736) (h2 : l.length ≤ 1099511627776) :
    FnR Tryz.prog 81 [⟨.arr, 5, 1, bts (putN a)⟩] [.obj 0 (putN a).length, .sl 1 (ints l)] [⟨.arr, 5, 1, bts (putN (a ++ l))⟩] (.obj 0 (putN (a ++ l)).length) := by
  have := put_obj (putN a) l h0 (by have := putN_len a; omega) h2
  rw [← putN_app] at this
  exact this
theorem put_nil (l : List Int) (h0 : ∀ x ∈ l, 0 ≤ x) (h2 : l.length ≤ 1099511627776) :
    FnR Tryz.prog 81 [⟨.arr, 5, 1, []⟩] [.obj 0 0, .sl 1 (ints l)] [⟨.arr, 5, 1, bts (putN l)⟩] (.obj 0 (putN l).length) := by
  have := put_num [] l h0 (by simp) h2
  simpa [putN, bts] using this
theorem bts_noSls (l : List UInt8) : noSls (bts l) := by
  induction l with
  | nil => simp [bts, noSls]
  | cons b l ih => simp only [bts, List.map_cons, noSls] at ih ⊢; exact ⟨by simp [V.noSl], ih⟩
theorem flat_take {α : Type} {l : List α} {e : α → List Int} {k : Nat} (h : k < l.length) : (l.take (k + 1)).flatMap e = (l.take k).flatMap e ++ e l[k] := by
  rw [List.take_succ_eq_append_getElem h, List.flatMap_append]; simp
theorem flat_len {α : Type} {l : List α} {e : α → List Int} {c : Nat} (h : ∀ x ∈ l, (e x).length ≤ c) : (l.flatMap e).length ≤ c * l.length := by
  induction l with
  | nil => simp
  | cons x l ih =>
    have h1 := h x (by simp)
    have h2 := ih fun y hy => h y (by simp [hy])
    rw [List.flatMap_cons, List.length_append, List.length_cons, Nat.mul_add, Nat.mul_one]
    omega

/-! Whole -/
instance (p : Pln) : Decidable (PlnW p) := by unfold PlnW; infer_instance
def wholeE (l : List Pln) : Int := if 8 < l.length then 4 else if l.all (fun p => decide (PlnW p)) then 0 else 170
def wholeB (l : List Pln) : List UInt8 := if wholeE l = 0 then putN (plansI l) else []
theorem whole_ok {l : List Pln} (h : wholeE l = 0) : l.length ≤ 8 ∧ ∀ p ∈ l, PlnW p := by
  unfold wholeE at h
  by_cases h1 : 8 < l.length
  · rw [if_pos h1] at h; omega
  · rw [if_neg h1] at h
    refine ⟨by omega, fun p hp => ?_⟩
    by_cases h2 : l.all (fun p => decide (PlnW p)) = true
    · simpa using List.all_eq_true.1 h2 p hp
    · rw [if_neg h2] at h; omega
theorem whole_of {l : List Pln} (h1 : l.length ≤ 8) (h2 : ∀ p ∈ l, PlnW p) : wholeE l = 0 := by
  unfold wholeE
  rw [if_neg (by omega), if_pos]
  exact List.all_eq_true.2 fun p hp => by simpa using h2 p hp
theorem whole_bad {l : List Pln} {p : Pln} (h1 : l.length ≤ 8) (hp : p ∈ l) (h2 : ¬ PlnW p) : wholeE l = 170 := by
  unfold wholeE
  rw [if_neg (by omega), if_neg]
  intro h
  exact h2 (by simpa using List.all_eq_true.1 h p hp)
def whS (l : List Pln) (sl : List (Nat × V)) (a : List Int) (k : Nat) (nx : Nat) : St :=
  ⟨sl ++ [(18, .int .i64 k), (17, .int .i64 l.length), (16, .sl 3 (l.map plnV)), (4, .obj 128 (putN a).length)], [(128, ⟨.arr, 5, 1, bts (putN a)⟩)], nx, [], 70, 0, []⟩
def whA (l : List Pln) (k : Nat) : List Int := (l.length : Int) :: (l.take k).flatMap planI
def headI (p : Pln) : List Int := [p.cycle, p.offset, (p.splits.length : Int)]
theorem whA_len {l : List Pln} (hl : l.length ≤ 8) (h : ∀ p ∈ l, p.splits.length ≤ 8) (k : Nat) : (whA l k).length ≤ 1000 := by
  have h1 := flat_len (l := l.take k) (e := planI) (c := 11) fun p hp => by
    have := h p (List.mem_of_mem_take hp)
    simp [planI]; omega
  have h2 : (l.take k).length ≤ 8 := by rw [List.length_take]; omega
  simp only [whA, List.length_cons]
  omega
set_option maxHeartbeats 4000000 in
theorem whole_spec (l : List Pln) : FnD Tryz.prog 83 [.sl 3 (l.map plnV)] (.tup [.sl 1 (bts (wholeB l)), .int .i64 (wholeE l)]) := by
  have hpl := plns_pure l
  have hll : (l.map plnV).length = l.length := List.length_map ..
  refine fnD_of mixed Tryz.func83 rfl rfl (by simp [Tryz.ntmps83]) fun hwf E => ?_
  simp (disch := omega) [go_sem, hll] at hwf
  simp (disch := omega) [Tryz.ntmps83, go_sem, hll]
  refine br_of (fun h8 => ?_) (fun h8 => ?_) <;> simp at h8
  · have e : wholeE l = 4 := by unfold wholeE; rw [if_pos (by omega)]
    have e2 : wholeB l = [] := by unfold wholeB; rw [e, if_neg (by decide)]
    rw [e, e2]
    simp (disch := omega) [go_sem, bts]
  · have q0 := put_nil [(l.length : Int)] (by simp) (by simp)
    simp (disch := omega) [go_sem, hll]
    refine callK_ref q0 [(0, none)] [] [112] [] ?_ ?_ ?_ (.inl ⟨rfl, .inr ?_⟩) (fun _ => ?_)
    · simp [go_sem, ints]
    · simp [go_sem]
    · simp [go_sem]
    · simp [go_sem, bts_noSls]
    simp (disch := omega) [go_sem, hll]
    refine awz_loop mixed (fun k : Nat => whS l [] (whA l k) k 2048) (fun k => k ≤ l.length ∧ ∀ p ∈ l.take k, PlnW p) (fun k => l.length - k) 0 ⟨by omega, by simp⟩ ?_ ?_
    · refine Le.mk [(128, some 128)] [128] ⟨rfl, rfl, rfl⟩ ?_ ?_ ?_ <;> simp [go_sem, whS, whA, hpl, hll, bts_pure]
    · rintro k ⟨hk, hW⟩
      simp (disch := omega) [go_sem, whS, hll]
      refine br_of (fun h => ?_) (fun h => ?_) <;> simp at h
      · have hgp : nth (l.map plnV) k = plnV l[k] := nth_map h
        have hmem : l[k] ∈ l := List.getElem_mem h
        have htk := flat_take (e := planI) h
        have hW1 : PlnW l[k] → ∀ p ∈ l.take (k + 1), PlnW p := fun hp q hq => by
          rw [List.take_succ_eq_append_getElem h, List.mem_append] at hq
          rcases hq with hq | hq
          · exact hW q hq
          · rw [List.mem_singleton] at hq; rw [hq]; exact hp
        have hbad := fun (hp : ¬ PlnW l[k]) => whole_bad (l := l) (p := l[k]) (by omega) hmem hp
        have hsl : (whA l k).length ≤ 1000 := by
          have h1 := flat_len (l := l.take k) (e := planI) (c := 11) fun p hp => by
            have := (hW p hp).2.2.1.2
            simp [planI]; omega
          have h2 : (l.take k).length ≤ 8 := by rw [List.length_take]; omega
          simp only [whA, List.length_cons]
          omega
        have hwA : whA l (k + 1) = whA l k ++ (headI l[k] ++ l[k].splits) := by
          simp only [whA, List.cons_append]
          rw [htk]; rfl
        have hwl : wfs (l.map plnV) := hwf.2
        have hwp := wfs_mem hwl _ hmem
        clear hmem htk
        generalize l[k] = p at *
        obtain ⟨pc, po, ps⟩ := p
        simp only at hW1 hbad hwA
        simp only [headI] at hwA
        have hps := ints_pure ps
        have q1 := ticks_spec [pc]
        have q2 := in_spec po 0 (pc - 1)
        have q3 := in_spec (ps.length : Int) 1 8
        simp (disch := omega) [go_sem, h, hgp, plnV, hll, ints_len] at hwp ⊢
        have hPW : PlnW ⟨pc, po, ps⟩ = ((1 ≤ pc ∧ pc ≤ 1048576) ∧ (0 ≤ po ∧ po ≤ pc - 1) ∧ (1 ≤ ps.length ∧ ps.length ≤ 8) ∧ ∀ x ∈ ps, 0 ≤ x ∧ x ≤ 1048576) := rfl
        have hB := fun hp => hbad hp
        have eB : ¬ PlnW ⟨pc, po, ps⟩ → wholeB l = [] := fun hp => by unfold wholeB; rw [hbad hp, if_neg (by decide)]
        rw [hPW] at hB eB hW1
        refine callK_bool q1 [2160] (by simp [go_sem, ints]) (fun h1 => ?_) (fun h1 => ?_) <;> simp [inN] at h1
        · simp (disch := omega) [go_sem]
          refine callK_bool q2 [] (by simp [go_sem]) (fun h2 => ?_) (fun h2 => ?_) <;> simp [inN] at h2
          · simp (disch := omega) [go_sem, ints_len]
            refine callK_bool q3 [] (by simp [go_sem]) (fun h3 => ?_) (fun h3 => ?_) <;> simp [inN] at h3
            · skip
              have q4 := put_num (whA l k) [pc, po, (ps.length : Int)] (by simp; omega) (by omega) (by simp)
              simp (disch := omega) [go_sem, ints_len]
              refine callK_ref q4 [(0, some 128)] [128] [2592] [] ?_ ?_ ?_ (.inl ⟨rfl, .inr ?_⟩) (fun _ => ?_)
              · simp [go_sem, ints]
              · simp [go_sem, bts_pure]
              · simp [go_sem]
              · simp [go_sem, bts_noSls]
              simp (disch := omega) [go_sem, ints_len]
              refine awz_loop mixed (fun m : Nat => whS l [(56, .int .i64 m), (55, .int .i64 ps.length), (54, .sl 1 (ints ps))] (whA l k ++ ([pc, po, (ps.length : Int)] ++ ps.take m)) k 4096) (fun m => m ≤ ps.length ∧ ∀ x ∈ ps.take m, 0 ≤ x ∧ x ≤ 1048576) (fun m => ps.length - m) 0 ⟨by omega, by simp⟩ ?_ ?_
              · refine Le.mk [(128, some 128)] [128] ⟨rfl, rfl, rfl⟩ ?_ ?_ ?_ <;> simp [go_sem, whS, hpl, hll, bts_pure, hps]
              · rintro m ⟨hm, hX⟩
                simp (disch := omega) [go_sem, whS]
                refine br_of (fun h4 => ?_) (fun h4 => ?_) <;> simp at h4
                · have hgx := nth_ints h4
                  have hX1 : (0 ≤ ps[m] ∧ ps[m] ≤ 1048576) → ∀ x ∈ ps.take (m + 1), 0 ≤ x ∧ x ≤ 1048576 := fun hp q hq => by
                    rw [List.take_succ_eq_append_getElem h4, List.mem_append] at hq
                    rcases hq with hq | hq
                    · exact hX q hq
                    · rw [List.mem_singleton] at hq; rw [hq]; exact hp
                  have hmm : ps[m] ∈ ps := List.getElem_mem h4
                  have htk : ps.take (m + 1) = ps.take m ++ [ps[m]] := List.take_succ_eq_append_getElem h4
                  have hNo : ¬ (0 ≤ ps[m] ∧ ps[m] ≤ 1048576) → ¬ ((1 ≤ pc ∧ pc ≤ 1048576) ∧ (0 ≤ po ∧ po ≤ pc - 1) ∧ (1 ≤ ps.length ∧ ps.length ≤ 8) ∧ ∀ x ∈ ps, 0 ≤ x ∧ x ≤ 1048576) := fun hn hp => hn (hp.2.2.2 _ hmm)
                  have q5 := in_spec ps[m] 0 1048576
                  have q6 := fun (hx : 0 ≤ ps[m]) => put_num (whA l k ++ ([pc, po, (ps.length : Int)] ++ ps.take m)) [ps[m]] (by simpa using hx) (by simp; omega) (by simp)
                  rw [List.append_assoc, List.append_assoc, ← htk] at q6
                  clear hmm htk
                  generalize ps[m] = x at *
                  simp (disch := omega) [go_sem, h4, hgx, ints_len]
                  refine callK_bool q5 [] (by simp [go_sem]) (fun h5 => ?_) (fun h5 => ?_) <;> simp [inN] at h5
                  · simp (disch := omega) [go_sem]
                    refine callK_ref (q6 h5.1) [(0, some 128)] [128] [4240] [] ?_ ?_ ?_ (.inl ⟨rfl, .inr ?_⟩) (fun _ => ?_)
                    · simp [go_sem, ints]
                    · simp [go_sem, bts_pure]
                    · simp [go_sem]
                    · simp [go_sem, bts_noSls]
                    simp (disch := omega) [go_sem]
                    refine round_of (m + 1) ⟨by omega, hX1 h5⟩ (by omega) (Le.mk [(128, some 128)] [128] ⟨rfl, rfl, rfl⟩ ?_ ?_ ?_) <;> simp [go_sem, whS, hpl, hll, bts_pure, hps]
                  · have hn := hNo (by omega)
                    rw [hB hn, eB hn]
                    simp (disch := omega) [go_sem, bts]
                · have hml : m = ps.length := by omega
                  subst hml
                  rw [List.take_length] at *
                  simp (disch := omega) [go_sem]
                  refine round_of (k + 1) ⟨by omega, hW1 ⟨by omega, by omega, by omega, hX⟩⟩ (by omega) (Le.mk [(128, some 128)] [128] ⟨rfl, rfl, rfl⟩ ?_ ?_ ?_) <;> simp [go_sem, whS, hpl, hll, bts_pure, hps, hwA]
            · rw [hB (fun hp => by have := hp.2.2.1; omega), eB (fun hp => by have := hp.2.2.1; omega)]
              simp (disch := omega) [go_sem, bts]
          · rw [hB (fun hp => by have := hp.2.1; omega), eB (fun hp => by have := hp.2.1; omega)]
            simp (disch := omega) [go_sem, bts]
        · rw [hB (fun hp => by have := hp.1; omega), eB (fun hp => by have := hp.1; omega)]
          simp (disch := omega) [go_sem, bts]
      · have hkl : k = l.length := by omega
        subst hkl
        rw [List.take_length] at hW
        have e := whole_of (by omega) hW
        have e2 : wholeB l = putN (whA l l.length) := by unfold wholeB whA; rw [if_pos e, List.take_length]; rfl
        rw [e, e2]
        have hpb := bts_pure (putN (whA l l.length))
        have hlb := bts_len (putN (whA l l.length))
        simp (disch := omega) [go_sem]
        first | exact hlb.symm | exact ⟨hlb.symm, argsLe_self hpb⟩
end Go.Proofs.YtdeionjkcmpnpaaGreatDoor
