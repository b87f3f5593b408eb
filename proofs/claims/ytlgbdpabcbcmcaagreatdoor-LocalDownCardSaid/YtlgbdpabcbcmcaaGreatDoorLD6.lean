/- Contracts and laws beneath the statement, in build order. -/
import Derived.Test.YtlgbdpabcbcmcaaGreatDoorLD5
set_option linter.unusedSimpArgs false
set_option linter.unusedVariables false
namespace Go.Proofs.YtlgbdpabcbcmcaaGreatDoor
open Go.AM Go.RowKit
set_option maxRecDepth 100000
section
attribute [local go_sem] zAq zAi
set_option maxHeartbeats 8000000 in
theorem yNm (s : Sit) (d : List UInt8) (l : List InpN) (cut : Int) (hi : xUa l) : FnD Tryz.prog 3 [sitV s, devV d, .sl 7 (l.map inpV), .int .i64 cut] (.bool true) tabG := by
 have q0 := yDg
 have q1 := yAc s d l hi.1
 have hpi := zIy l
 have hpd := zAg d
 have hsv := zAs s
 have hsm := yQn (s := s) (d := d) (l := l)
 cases hB : zVn s d l with
 | false =>
  rw [hB] at q1;rw [hsv] at q1 ⊢;unfold devV at *;refine zAd mixed Tryz.func3 rfl rfl (by simp [Tryz.ntmps3]) fun hwf E => ?_
  clear hwf;simp (disch := omega) [Tryz.ntmps3, go_sem];refine zAa q0 [] (by simp [go_sem]) (.inl rfl) (by simp [go_sem]) (fun _ => ?_) (by simp [tabG, go_sem])
  simp (disch := omega) [go_sem];refine zAa q1 [] (by simp [go_sem]) (.inl rfl) (by simp [go_sem]) (fun _ => ?_)
  simp (disch := omega) [go_sem]
 | true =>
  rw [hB] at q1;obtain ⟨hd5, hl2⟩ := hsm hB;have t0 : ltss [] = [] := rfl;have m0 : lts [] = [] := rfl;by_cases hcut : cut < 0
  ·have hc1 : decide (cut < 0) = true := by simpa using hcut
   rw [hsv] at q1 ⊢;unfold devV at *;refine zAd mixed Tryz.func3 rfl rfl (by simp [Tryz.ntmps3]) fun hwf E => ?_
   clear hwf;simp (disch := omega) [Tryz.ntmps3, go_sem];refine zAa q0 [] (by simp [go_sem]) (.inl rfl) (by simp [go_sem]) (fun _ => ?_) (by simp [tabG, go_sem])
   simp (disch := omega) [go_sem];refine zAa q1 [] (by simp [go_sem]) (.inl rfl) (by simp [go_sem]) (fun _ => ?_)
   simp (disch := omega) [go_sem, hc1]
  have hc1 : decide (cut < 0) = false := by simpa using hcut
  by_cases hcut2 : (l.length : Int) < cut
  ·have hc2 : decide ((l.length : Int) < cut) = true := by simpa using hcut2
   rw [hsv] at q1 ⊢;unfold devV at *;refine zAd mixed Tryz.func3 rfl rfl (by simp [Tryz.ntmps3]) fun hwf E => ?_
   clear hwf;simp (disch := omega) [Tryz.ntmps3, go_sem];refine zAa q0 [] (by simp [go_sem]) (.inl rfl) (by simp [go_sem]) (fun _ => ?_) (by simp [tabG, go_sem])
   simp (disch := omega) [go_sem];refine zAa q1 [] (by simp [go_sem]) (.inl rfl) (by simp [go_sem]) (fun _ => ?_)
   simp (disch := omega) [go_sem, hc1, hc2]
  have hc2 : decide ((l.length : Int) < cut) = false := by simpa using hcut2
  by_cases hs : zAk s
  rotate_left
  ·have q3 := yTl s d l hs;rw [hsv] at q1 q3 ⊢;rw [t0, m0] at q3;unfold devV at *;refine zAd mixed Tryz.func3 rfl rfl (by simp [Tryz.ntmps3]) fun hwf E => ?_
   clear hwf;simp (disch := omega) [Tryz.ntmps3, go_sem];refine zAa q0 [] (by simp [go_sem]) (.inl rfl) (by simp [go_sem]) (fun _ => ?_) (by simp [tabG, go_sem])
   simp (disch := omega) [go_sem];refine zAa q1 [] (by simp [go_sem]) (.inl rfl) (by simp [go_sem]) (fun _ => ?_)
   simp (disch := omega) [go_sem, hc1, hc2];refine zAa q3 [] (by simp [go_sem]) (.inl rfl) (by simp [go_sem]) (fun _ => ?_) (by simp [tabG, go_sem])
   simp (disch := omega) [go_sem]
  ·cases h2 : twoB d with
   | false =>
    have q3 := yTn s d l hs h2;rw [hsv] at q1 q3 ⊢;rw [t0, m0] at q3;unfold devV at *;refine zAd mixed Tryz.func3 rfl rfl (by simp [Tryz.ntmps3]) fun hwf E => ?_
    clear hwf;simp (disch := omega) [Tryz.ntmps3, go_sem];refine zAa q0 [] (by simp [go_sem]) (.inl rfl) (by simp [go_sem]) (fun _ => ?_) (by simp [tabG, go_sem])
    simp (disch := omega) [go_sem];refine zAa q1 [] (by simp [go_sem]) (.inl rfl) (by simp [go_sem]) (fun _ => ?_)
    simp (disch := omega) [go_sem, hc1, hc2];refine zAa q3 [] (by simp [go_sem]) (.inl rfl) (by simp [go_sem]) (fun _ => ?_) (by simp [tabG, go_sem])
    simp (disch := omega) [go_sem]
   | true =>
    have q3 := yTm s d l hs h2 (by omega) (by omega) hi.2
    have hdn := fun k => yTf (l := l) hs (show d.length ≤ 1048576 by omega) k (yIz hs (show d.length ≤ 1048576 by omega) k)
    have hok := zWd hs (show d.length ≤ 1048576 by omega) l
    have hml := zTg s d l l.length;have hma := fun k h => xEa (s := s) (d := d) (l := l) (n := l.length) (k := k) h
    have hpt := zOd (zGs s d l l.length);have hpm := zDd (zFw s d l l.length);have hqb : ∀ k : Nat, 0 ≤ dnQ l k ∧ dnQ l k ≤ k := by
     intro k;induction k with
     | zero => simp [dnQ]
     | succ k ih => simp only [dnQ]; split <;> omega
    have hwb : ∀ k : Nat, 0 ≤ dnW s l k ∧ dnW s l k ≤ k := by
     intro k;induction k with
     | zero => simp [dnW]
     | succ k ih => simp only [dnW]; split <;> omega
    generalize zFw s d l l.length = M at *;generalize ltss (zGs s d l l.length) = T at *;have hq0 : dnQ l 0 = 0 := rfl;have hw0 : dnW s l 0 = 0 := rfl;have hL0 : dnL s l 0 = false := rfl;have hsp := zRk s;rw [hsv] at hsp;rw [hsv] at q1 q3 ⊢;unfold devV at *;refine zAd mixed Tryz.func3 rfl rfl (by simp [Tryz.ntmps3]) fun hwf E => ?_
    clear hwf;simp (disch := omega) [Tryz.ntmps3, go_sem];refine zAa q0 [] (by simp [go_sem]) (.inl rfl) (by simp [go_sem]) (fun _ => ?_) (by simp [tabG, go_sem])
    simp (disch := omega) [go_sem];refine zAa q1 [] (by simp [go_sem]) (.inl rfl) (by simp [go_sem]) (fun _ => ?_)
    simp (disch := omega) [go_sem, hc1, hc2];refine zAa q3 [] (by simp [go_sem]) (.inl rfl) (by simp [go_sem]) (fun _ => ?_) (by simp [tabG, go_sem])
    simp (disch := omega) [go_sem];refine zAe mixed (fun k : Nat => ⟨[(16, .int .i64 k), (14, .sl 1 (lts M)), (12, .bool (dnL s l k)), (11, .int .i64 (dnW s l k)), (10, .int .i64 (dnQ l k)), (4, .ptr 0 1 0 0), (2, .sl 7 (l.map inpV))], [(0, ⟨.box, 29, 12, [sitV s]⟩)], 1024, [], 117, 0, tabG⟩) (fun k => k ≤ l.length) (fun k => l.length - k) 0 ?_ ?_ ?_
    ·omega
    ·refine Le.mk [(0, some 0)] [0] ⟨rfl, rfl, rfl⟩ ?_ ?_ ?_ <;> simp [go_sem, hq0, hw0, hL0, hsv]
    ·intro k hk;simp (disch := omega) [go_sem, hsv];refine zAc (fun c1 => ?_) (fun c1 => ?_) <;> simp at c1
     ·have hx : l.getD k inp0 = l[k] := by simp [c1]
      have hiv : inpV l[k] = .agg [.sl 1 (bts l[k].bytes), .int .u32 l[k].eyes, .sl 1 (lts l[k].back), .bool l[k].lost, .int .i64 l[k].whole, .int .i64 l[k].torn, .bool l[k].rot] := rfl;have hkM : k < M.length := by omega
      have hm := nthL hkM;have hm2 := getL hkM;obtain ⟨_, u⟩ := hdn k;have o2 := (hok (k + 1)).mode;have hmk := hma k c1;rw [hmk] at hm hm2;have b1 := hqb k;have b2 := hwb k;have e1 : dnQ l (k + 1) = if 0 < l[k].bytes.length then 0 else dnQ l k + 1 := by rw [← hx]; rfl
      have e2 : dnW s l (k + 1) = if l[k].lost = true ∨ l[k].back.length ≠ s.groups.length ∨ zLz l[k].back = false then 0 else dnW s l k + 1 := by rw [← hx]; rfl
      have e3 : dnL s l (k + 1) = if l[k].lost = true then false else dnL s l k || decide (s.feed ≤ dnW s l (k + 1)) := by rw [← hx]; rfl
      have qd := yGu l[k].back;rw [hx] at u;generalize (lcK s d l (k + 1)).rung.mode = m at *;generalize hQ1 : dnQ l (k + 1) = Q1 at *;generalize hW1 : dnW s l (k + 1) = W1 at *;generalize hL1 : dnL s l (k + 1) = L1 at *;have z1 : ∀ A B : Bool, (A && B) = false → (A && B) = false := fun _ _ h => h
      have fin : l[k].lost = false → ((decide (s.watch ≤ Q1) && decide (3 ≤ m)) = false) ∧ (L1 = true → m = 0) := fun hlo => by
       obtain ⟨u1, u2⟩ := u hlo;refine ⟨?_, u2⟩;by_cases h : s.watch ≤ Q1
       ·have := u1 h;rw [decide_eq_true h, Bool.true_and, decide_eq_false_iff_not]; omega
       ·rw [decide_eq_false h]; rfl
      clear u;by_cases h1 : 0 < l[k].bytes.length
      ·rw [if_pos h1] at e1;have d1 : decide ((0 : Int) < (l[k].bytes.length : Int)) = true := decide_eq_true (by omega)
       have d1n : decide (0 < l[k].bytes.length) = true := decide_eq_true h1;cases hlo : l[k].lost with
       | true =>
        rw [hlo, if_pos rfl] at e3;rw [if_pos (.inl hlo)] at e2;by_cases h2 : l[k].back.length = s.groups.length
        ·cases hdk : zLz l[k].back with
         | true =>
          rw [hdk] at qd;have d2 : ((l[k].back.length : Int) != (s.groups.length : Int)) = false := by simp [h2]
          simp (disch := omega) [go_sem, c1, hiv, d1n, hlo, d2];refine zAa qd [] (by simp [go_sem]) (.inl rfl) (by simp [go_sem]) (fun _ => ?_)
          simp (disch := omega) [go_sem, c1, hiv, hlo];refine ⟨.inl (by kernel_rfl), ?_⟩
          refine zAb (k + 1) (by omega) (by omega) (Le.mk [(0, some 0)] [0] ⟨rfl, rfl, rfl⟩ ?_ ?_ ?_) <;> simp [go_sem, hQ1, hW1, hL1, e1, e2, e3]
         | false =>
          rw [hdk] at qd;have d2 : ((l[k].back.length : Int) != (s.groups.length : Int)) = false := by simp [h2]
          simp (disch := omega) [go_sem, c1, hiv, d1n, hlo, d2];refine zAa qd [] (by simp [go_sem]) (.inl rfl) (by simp [go_sem]) (fun _ => ?_)
          simp (disch := omega) [go_sem, c1, hiv, hlo];refine ⟨.inl (by kernel_rfl), ?_⟩
          refine zAb (k + 1) (by omega) (by omega) (Le.mk [(0, some 0)] [0] ⟨rfl, rfl, rfl⟩ ?_ ?_ ?_) <;> simp [go_sem, hQ1, hW1, hL1, e1, e2, e3]
        ·skip
         have d2 : ((l[k].back.length : Int) != (s.groups.length : Int)) = true := by simp; omega
         simp (disch := omega) [go_sem, c1, hiv, d1n, hlo, d2];refine ⟨.inl (by kernel_rfl), ?_⟩
         refine zAb (k + 1) (by omega) (by omega) (Le.mk [(0, some 0)] [0] ⟨rfl, rfl, rfl⟩ ?_ ?_ ?_) <;> simp [go_sem, hQ1, hW1, hL1, e1, e2, e3]
       | false =>
        rw [hlo, if_neg (by simp)] at e3
        obtain ⟨f1, f2⟩ := fin hlo;by_cases h2 : l[k].back.length = s.groups.length
        ·cases hdk : zLz l[k].back with
         | true =>
          rw [hdk] at qd;rw [if_neg (by simp [hlo, h2, hdk])] at e2
          have d2 : ((l[k].back.length : Int) != (s.groups.length : Int)) = false := by simp [h2]
          simp (disch := omega) [go_sem, c1, hiv, d1n, hlo, d2];refine zAa qd [] (by simp [go_sem]) (.inl rfl) (by simp [go_sem]) (fun _ => ?_)
          simp (disch := omega) [go_sem, hml, c1, hiv, hlo, hm];refine ⟨.inl (by kernel_rfl), ?_⟩
          refine ⟨by omega, ?_⟩
          refine zAc (fun e5 => ?_) (fun e5 => ?_) <;> simp at e5
          ·exfalso
           rw [e2] at e3;rw [e3] at f2;rw [e1] at f1;simp at f1 f2;rcases e5 with ⟨a, b⟩ | ⟨a, b⟩
           ·have := f1 a; omega
           ·exact b (f2 a)
          ·simp (disch := omega) [go_sem];refine zAb (k + 1) (by omega) (by omega) (Le.mk [(0, some 0)] [0] ⟨rfl, rfl, rfl⟩ ?_ ?_ ?_) <;> simp [go_sem, hQ1, hW1, hL1, e1, e2, e3]
         | false =>
          rw [hdk] at qd;rw [if_pos (.inr (.inr hdk))] at e2;have d2 : ((l[k].back.length : Int) != (s.groups.length : Int)) = false := by simp [h2]
          simp (disch := omega) [go_sem, c1, hiv, d1n, hlo, d2];refine zAa qd [] (by simp [go_sem]) (.inl rfl) (by simp [go_sem]) (fun _ => ?_)
          simp (disch := omega) [go_sem, hml, c1, hiv, hlo, hm];refine ⟨.inl (by kernel_rfl), ?_⟩
          refine ⟨by omega, ?_⟩
          refine zAc (fun e5 => ?_) (fun e5 => ?_) <;> simp at e5
          ·exfalso
           rw [e2] at e3;rw [e3] at f2;rw [e1] at f1;simp at f1 f2;rcases e5 with ⟨a, b⟩ | ⟨a, b⟩
           ·have := f1 a; omega
           ·exact b (f2 a)
          ·simp (disch := omega) [go_sem];refine zAb (k + 1) (by omega) (by omega) (Le.mk [(0, some 0)] [0] ⟨rfl, rfl, rfl⟩ ?_ ?_ ?_) <;> simp [go_sem, hQ1, hW1, hL1, e1, e2, e3]
        ·skip
         rw [if_pos (.inr (.inl h2))] at e2;have d2 : ((l[k].back.length : Int) != (s.groups.length : Int)) = true := by simp; omega
         simp (disch := omega) [go_sem, hml, c1, hiv, d1n, hlo, d2, hm];refine ⟨.inl (by kernel_rfl), ?_⟩
         refine ⟨by omega, ?_⟩
         refine zAc (fun e5 => ?_) (fun e5 => ?_) <;> simp at e5
         ·exfalso
          rw [e2] at e3;rw [e3] at f2;rw [e1] at f1;simp at f1 f2;rcases e5 with ⟨a, b⟩ | ⟨a, b⟩
          ·have := f1 a; omega
          ·exact b (f2 a)
         ·simp (disch := omega) [go_sem];refine zAb (k + 1) (by omega) (by omega) (Le.mk [(0, some 0)] [0] ⟨rfl, rfl, rfl⟩ ?_ ?_ ?_) <;> simp [go_sem, hQ1, hW1, hL1, e1, e2, e3]
      ·rw [if_neg h1] at e1;have d1 : decide ((0 : Int) < (l[k].bytes.length : Int)) = false := decide_eq_false (by omega)
       have d1n : decide (0 < l[k].bytes.length) = false := decide_eq_false h1;cases hlo : l[k].lost with
       | true =>
        rw [hlo, if_pos rfl] at e3;rw [if_pos (.inl hlo)] at e2;by_cases h2 : l[k].back.length = s.groups.length
        ·cases hdk : zLz l[k].back with
         | true =>
          rw [hdk] at qd;have d2 : ((l[k].back.length : Int) != (s.groups.length : Int)) = false := by simp [h2]
          simp (disch := omega) [go_sem, c1, hiv, d1n, hlo, d2];refine zAa qd [] (by simp [go_sem]) (.inl rfl) (by simp [go_sem]) (fun _ => ?_)
          simp (disch := omega) [go_sem, c1, hiv, hlo];refine ⟨.inl (by kernel_rfl), ?_⟩
          refine zAb (k + 1) (by omega) (by omega) (Le.mk [(0, some 0)] [0] ⟨rfl, rfl, rfl⟩ ?_ ?_ ?_) <;> simp [go_sem, hQ1, hW1, hL1, e1, e2, e3]
         | false =>
          rw [hdk] at qd;have d2 : ((l[k].back.length : Int) != (s.groups.length : Int)) = false := by simp [h2]
          simp (disch := omega) [go_sem, c1, hiv, d1n, hlo, d2];refine zAa qd [] (by simp [go_sem]) (.inl rfl) (by simp [go_sem]) (fun _ => ?_)
          simp (disch := omega) [go_sem, c1, hiv, hlo];refine ⟨.inl (by kernel_rfl), ?_⟩
          refine zAb (k + 1) (by omega) (by omega) (Le.mk [(0, some 0)] [0] ⟨rfl, rfl, rfl⟩ ?_ ?_ ?_) <;> simp [go_sem, hQ1, hW1, hL1, e1, e2, e3]
        ·skip
         have d2 : ((l[k].back.length : Int) != (s.groups.length : Int)) = true := by simp; omega
         simp (disch := omega) [go_sem, c1, hiv, d1n, hlo, d2];refine ⟨.inl (by kernel_rfl), ?_⟩
         refine zAb (k + 1) (by omega) (by omega) (Le.mk [(0, some 0)] [0] ⟨rfl, rfl, rfl⟩ ?_ ?_ ?_) <;> simp [go_sem, hQ1, hW1, hL1, e1, e2, e3]
       | false =>
        rw [hlo, if_neg (by simp)] at e3
        obtain ⟨f1, f2⟩ := fin hlo;by_cases h2 : l[k].back.length = s.groups.length
        ·cases hdk : zLz l[k].back with
         | true =>
          rw [hdk] at qd;rw [if_neg (by simp [hlo, h2, hdk])] at e2
          have d2 : ((l[k].back.length : Int) != (s.groups.length : Int)) = false := by simp [h2]
          simp (disch := omega) [go_sem, c1, hiv, d1n, hlo, d2];refine zAa qd [] (by simp [go_sem]) (.inl rfl) (by simp [go_sem]) (fun _ => ?_)
          simp (disch := omega) [go_sem, hml, c1, hiv, hlo, hm];refine ⟨.inl (by kernel_rfl), ?_⟩
          refine ⟨by omega, ?_⟩
          refine zAc (fun e5 => ?_) (fun e5 => ?_) <;> simp at e5
          ·exfalso
           rw [e2] at e3;rw [e3] at f2;rw [e1] at f1;simp at f1 f2;rcases e5 with ⟨a, b⟩ | ⟨a, b⟩
           ·have := f1 a; omega
           ·exact b (f2 a)
          ·simp (disch := omega) [go_sem];refine zAb (k + 1) (by omega) (by omega) (Le.mk [(0, some 0)] [0] ⟨rfl, rfl, rfl⟩ ?_ ?_ ?_) <;> simp [go_sem, hQ1, hW1, hL1, e1, e2, e3]
         | false =>
          rw [hdk] at qd;rw [if_pos (.inr (.inr hdk))] at e2;have d2 : ((l[k].back.length : Int) != (s.groups.length : Int)) = false := by simp [h2]
          simp (disch := omega) [go_sem, c1, hiv, d1n, hlo, d2];refine zAa qd [] (by simp [go_sem]) (.inl rfl) (by simp [go_sem]) (fun _ => ?_)
          simp (disch := omega) [go_sem, hml, c1, hiv, hlo, hm];refine ⟨.inl (by kernel_rfl), ?_⟩
          refine ⟨by omega, ?_⟩
          refine zAc (fun e5 => ?_) (fun e5 => ?_) <;> simp at e5
          ·exfalso
           rw [e2] at e3;rw [e3] at f2;rw [e1] at f1;simp at f1 f2;rcases e5 with ⟨a, b⟩ | ⟨a, b⟩
           ·have := f1 a; omega
           ·exact b (f2 a)
          ·simp (disch := omega) [go_sem];refine zAb (k + 1) (by omega) (by omega) (Le.mk [(0, some 0)] [0] ⟨rfl, rfl, rfl⟩ ?_ ?_ ?_) <;> simp [go_sem, hQ1, hW1, hL1, e1, e2, e3]
        ·skip
         rw [if_pos (.inr (.inl h2))] at e2;have d2 : ((l[k].back.length : Int) != (s.groups.length : Int)) = true := by simp; omega
         simp (disch := omega) [go_sem, hml, c1, hiv, d1n, hlo, d2, hm];refine ⟨.inl (by kernel_rfl), ?_⟩
         refine ⟨by omega, ?_⟩
         refine zAc (fun e5 => ?_) (fun e5 => ?_) <;> simp at e5
         ·exfalso
          rw [e2] at e3;rw [e3] at f2;rw [e1] at f1;simp at f1 f2;rcases e5 with ⟨a, b⟩ | ⟨a, b⟩
          ·have := f1 a; omega
          ·exact b (f2 a)
         ·simp (disch := omega) [go_sem];refine zAb (k + 1) (by omega) (by omega) (Le.mk [(0, some 0)] [0] ⟨rfl, rfl, rfl⟩ ?_ ?_ ?_) <;> simp [go_sem, hQ1, hW1, hL1, e1, e2, e3]
     ·have hkk : k = l.length := by omega
      subst hkk;simp (disch := omega) [go_sem]
end
end Go.Proofs.YtlgbdpabcbcmcaaGreatDoor
