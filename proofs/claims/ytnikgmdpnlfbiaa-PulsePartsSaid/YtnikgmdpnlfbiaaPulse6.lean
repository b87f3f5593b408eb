/- The law PulseParts. -/
import Derived.Test.YtnikgmdpnlfbiaaPulse3
namespace Go.Proofs.Ytnikgmdpnlfbiaa
open Go.AM Go.RowKit
set_option maxRecDepth 100000

theorem bools_take (l : List Bool) (n : Nat) : bools (l.take n) = (bools l).take n := by simp [bools, List.map_take]
theorem bools_drop (l : List Bool) (n : Nat) : bools (l.drop n) = (bools l).drop n := by simp [bools, List.map_drop]
theorem next_ok {p : Pul} {x : Bool} {hold : Int} (hp : 0 ≤ p.2.2 ∧ p.2.2 ≤ 1048576) (hh : 1 ≤ hold ∧ hold ≤ 1048576) :
    FnD Try.prog 14 [pulV p, .bool x, .int .i64 hold] (.tup [pulV (stepP hold p x), .int .i64 0]) := by
  have h := next_spec p x hold
  unfold nextE at h
  rwa [askedN_yes hp (by omega) hh, if_pos rfl] at h

theorem parts_spec (p : Pul) (l : List Bool) (at_ hold : Int) : FnD Try.prog 8 [pulV p, .sl 1 (bools l), .int .i64 at_, .int .i64 hold] (.bool true) := by
  obtain ⟨u, r, s⟩ := p
  unfold pulV
  refine fnD_of mixed Try.func8 rfl rfl (by simp [Try.ntmps8]) fun hwf E => ?_
  simp (disch := omega) [go_sem, bools_len] at hwf
  simp (disch := omega) [Try.ntmps8, go_sem, bools_len]
  refine callK_data alive_spec [] (by simp [go_sem]) (.inl rfl) (by simp [go_sem]) fun _ => ?_
  simp (disch := omega) [go_sem, bools_len]
  refine br_of (fun h => ?_) (fun h => ?_) <;> simp at h <;> simp (disch := omega) [go_sem, bools_len]
  obtain ⟨⟨hl, ha0⟩, ha1⟩ := h
  obtain ⟨n, rfl⟩ := Int.eq_ofNat_of_zero_le ha0
  have hn : n ≤ l.length := by omega
  by_cases hA : askedN (u, r, s) l.length hold = 0
  · obtain ⟨hp, -, hh⟩ := askedN_ok hA
    have r1 := run_ok (p := (u, r, s)) (l := l) hp (by omega) hh
    have r2 := run_ok (p := (u, r, s)) (l := l.take n) hp (by simp; omega) hh
    have hb := atP_bound (hold := hold) (l := l) hp n hn
    have r3 := run_ok (p := atP hold (u, r, s) l n) (l := l.drop n) hb (by simp; omega) hh
    have e1 : (runP hold (u, r, s) l).1 = (runP hold (atP hold (u, r, s) l n) (l.drop n)).1 := by
      conv => lhs; rw [← List.take_append_drop n l, runP_append]
      rfl
    have e2 : (runP hold (u, r, s) l).2 = (runP hold (u, r, s) (l.take n)).2 ++ (runP hold (atP hold (u, r, s) l n) (l.drop n)).2 := by
      conv => lhs; rw [← List.take_append_drop n l, runP_append]
      rfl
    have hst := fun (k : Nat) (x : Bool) (hk : k ≤ l.length) => next_ok (x := x) (atP_bound (hold := hold) (l := l) hp k hk) hh
    have hpv : pulV (u, r, s) = .agg [.bool u, .bool r, .int .i64 s] := rfl
    have hog := out_get hold (u, r, s) l
    have hol : (runP hold (u, r, s) l).2.length = l.length := runP_len hold l _
    have hz := atP_zero (hold := hold) (p := (u, r, s)) (l := l)
    have hfin : atP hold (u, r, s) l l.length = (runP hold (u, r, s) l).1 := by simp [atP]
    have hss := fun k => atP_succ (hold := hold) (p := (u, r, s)) (l := l) (k := k)
    have hla : (runP hold (u, r, s) (l.take n)).1 = atP hold (u, r, s) l n := rfl
    rw [hla] at r2
    generalize atP hold (u, r, s) l = At at *
    generalize (runP hold (u, r, s) l).1 = a at *
    generalize (runP hold (u, r, s) l).2 = o at *
    generalize (runP hold (u, r, s) (l.take n)).2 = o1 at *
    generalize (runP hold (At n) (l.drop n)).2 = o2 at *
    generalize (runP hold (At n) (l.drop n)).1 = a2 at *
    subst e1
    rw [hpv] at r1 r2
    refine callK_data r1 [] (by simp [go_sem, bools_pure]) (.inl rfl) (by simp [go_sem, pulV, bools_pure]) fun _ => ?_
    simp (disch := omega) [go_sem, pulV, bools_len]
    rw [bools_take] at r2
    rw [bools_drop] at r3
    have hta : (bools l).take l.length = bools l := by rw [← bools_len l, List.take_length]
    have hp1 : pures ((bools l).take n) := by rw [← bools_take]; exact bools_pure _
    have hp2 : pures ((bools l).drop n) := by rw [← bools_drop]; exact bools_pure _
    refine ⟨hn, callK_data r2 [] (by simp [go_sem, hp1]) (.inl rfl) (by simp [go_sem, pulV, bools_pure]) fun _ => ?_⟩
    simp (disch := omega) [go_sem, pulV, bools_len]
    refine ⟨by kernel_rfl, hn, callK_data r3 [] (by simp [go_sem, pulV, hp2, hta]) (.inl rfl) (by simp [go_sem, pulV, bools_pure]) fun _ => ?_⟩
    simp (disch := omega) [go_sem, pulV, bools_len]
    have hsm := same_spec o o
    rw [show decide (o = o) = true by simp] at hsm
    have hbo : bools o1 ++ bools o2 = bools o := by rw [e2]; simp [bools]
    have hlo : o1.length + o2.length = o.length := by rw [e2]; simp
    refine ⟨by kernel_rfl, by omega, by omega, callK_data hsm [1200] ?_ (.inr (by simp [go_sem])) (by simp [go_sem]) fun _ => ?_⟩
    · simp [go_sem, hbo, hlo, bools_pure, bools_len]
    simp (disch := omega) [go_sem]
    refine awz_loop mixed (fun k : Nat => ⟨[(19, .int .i64 k), (4, .ptr 0 1 0 0), (1, .sl 1 (bools l)), (3, .int .i64 hold), (11, .sl 1 (bools o)), (10, .ptr 432 1 0 0), (9, .bool true), (8, .bool false)],
        [(0, ⟨.box, 34, 3, [pulV (At k)]⟩), (432, ⟨.box, 34, 3, [pulV a]⟩)], 4096, [], 134, 0, []⟩)
      (fun k => k ≤ l.length) (fun k => l.length - k) 0 (by simp) ?_ ?_
    · refine Le.mk [(0, some 0), (432, some 432)] [0, 432] ⟨rfl, rfl, rfl⟩ ?_ ?_ ?_ <;> simp [go_sem, bools_pure, pulV, hz]
    · intro k hk
      simp (disch := omega) [go_sem, bools_len]
      refine br_of (fun h1 => ?_) (fun h1 => ?_) <;> simp at h1
      · simp (disch := omega) [go_sem, bools_len, nth_bools, h1, pulV]
        refine callK_data (hst k l[k] hk) [] (by simp [go_sem, pulV]) (.inl rfl) (by simp [go_sem, pulV]) fun _ => ?_
        have hs1 := hss k h1
        have ho1 := hog k h1 (by omega)
        rw [hs1] at ho1
        simp (disch := omega) [go_sem, bools_len, nth_bools, h1, pulV, hol, ho1]
        refine ⟨by kernel_rfl, by kernel_rfl, round_of (k + 1) (by omega) (by omega) (Le.mk [(0, some 0), (432, some 432)] [0, 432] ⟨rfl, rfl, rfl⟩ ?_ ?_ ?_)⟩ <;> simp [go_sem, bools_pure, pulV, hs1]
      · have hkl : k = l.length := by omega
        subst hkl
        simp (disch := omega) [go_sem, pulV, hfin]
  · have hA2 : askedN (u, r, s) (l.take n).length hold = askedN (u, r, s) l.length hold := by
      simp only [askedN, List.length_take]
      rw [if_neg (show ¬ ((min n l.length : Nat) : Int) > 4096 by omega), if_neg (show ¬ (l.length : Int) > 4096 by omega)]
    have r1 := run_bad (p := (u, r, s)) (l := l) hA
    have r2 := run_bad (p := (u, r, s)) (l := l.take n) (by rw [hA2]; exact hA)
    rw [hA2, bools_take] at r2
    have hp1 : pures ((bools l).take n) := by rw [← bools_take]; exact bools_pure _
    have hpv : pulV (u, r, s) = .agg [.bool u, .bool r, .int .i64 s] := rfl
    rw [hpv] at r1 r2
    generalize askedN (u, r, s) l.length hold = e at *
    refine callK_data r1 [] (by simp [go_sem, bools_pure]) (.inl rfl) (by simp [go_sem, pulV, bools_pure]) fun _ => ?_
    simp (disch := omega) [go_sem, pulV, bools_nil]
    refine ⟨by rw [bools_len]; exact hn, callK_data r2 [] (by simp [go_sem, hp1]) (.inl rfl) (by simp [go_sem, pulV, bools_nil]) fun _ => ?_⟩
    simp (disch := omega) [go_sem, pulV, bools_nil]
    refine ⟨by kernel_rfl, br_of (fun h1 => ?_) (fun h1 => ?_)⟩
    · simp (disch := omega) [go_sem]
    · simp at h1; exact absurd h1 hA
end Go.Proofs.Ytnikgmdpnlfbiaa
