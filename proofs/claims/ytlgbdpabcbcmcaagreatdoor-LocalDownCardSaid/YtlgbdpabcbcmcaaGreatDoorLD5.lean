/- Contracts and laws beneath the statement, in build order. -/
import Derived.Test.YtlgbdpabcbcmcaaGreatDoorLD4
set_option linter.unusedSimpArgs false
set_option linter.unusedVariables false
namespace Go.Proofs.YtlgbdpabcbcmcaaGreatDoor
open Go.AM Go.RowKit
set_option maxRecDepth 100000
section
attribute [local go_sem] zAq zAi
def zCp (t : TckN) : List UInt8 := t.x.rest ++ t.i.bytes.take 8192
def yBo (a : List UInt8) : List UInt8 := if 0 ≤ zGz a 126 ∧ (a.length : Int) - zGz a 126 ≤ 2048 then a.drop (zGz a 126).toNat else []
noncomputable def lheS (s : Sit) (p : Pln × Bool) (m : MsgN) : Pln × Bool :=
 if m.kind = 2 ∧ ocE m.body = 0 ∧ (ocC m.body).site = s.id then (zOx s (ocC m.body).pln, true) else p
noncomputable def heK (s : Sit) (p : Pln) (l : List MsgN) : Nat → Pln × Bool
 | 0 => (p, false)
 | k + 1 => lheS s (heK s p l k) (l.getD k ⟨0, 0, []⟩)
noncomputable def zBv (t : TckN) : List MsgN := nxtT t.x.link (zPm (zCp t))
noncomputable def zOl (t : TckN) : Pln × Bool := heK t.s t.x.told (zBv t) (zBv t).length
noncomputable def zEm (t : TckN) : TckN := { t with x := { t.x with rest := yBo (zCp t), link := nxtL t.x.link (zPm (zCp t)), told := (zOl t).1, age := if (zOl t).2 = true then 0 else zGa t.x.age 1048576 } }
noncomputable def heT (t : TckN) (k : Nat) : TckN := { t with x := { t.x with rest := yBo (zCp t), link := nxtL t.x.link (zPm (zCp t)), told := (heK t.s t.x.told (zBv t) k).1 } }
noncomputable def heF (t : TckN) (k : Nat) : St := ⟨[(80, .int .i64 k), (79, .int .i64 (zBv t).length), (78, .sl 3 ((zBv t).map msgV)), (10, .bool (heK t.s t.x.told (zBv t) k).2), (0, .ptr 0 1 0 0)], [(0, tckO (heT t k))], 8192, [], 143, 1, tabG⟩
set_option maxHeartbeats 4000000 in
theorem zVj (t : TckN) (hOk : zAk t.s) (hr : t.x.rest.length ≤ 2048) (hage : 0 ≤ t.x.age ∧ t.x.age ≤ 1048576) : FnR Tryz.prog 37 [tckO t] [.ptr 0 1 0 0] [tckO (zEm t)] (.bool (zOl t).2) tabG := by
 have hA : zCp t = t.x.rest ++ t.i.bytes.take 8192 := rfl
 have hAl : (zCp t).length ≤ 10240 := by rw [hA]; simp; omega
 have hA2 : [t.x.rest, t.i.bytes.take 8192].flatten = zCp t := by simp [hA]
 have q1 := yOg [t.x.rest, t.i.bytes.take 8192] (by rw [hA2]; omega) (by simp)
 rw [hA2] at q1
 have hbl : [t.x.rest, t.i.bytes.take 8192].map btlV = [.sl 1 (bts t.x.rest), .sl 1 (bts (t.i.bytes.take 8192))] := rfl
 rw [hbl] at q1
 have q2 := yRa (zCp t) (by omega)
 have q3 := yNi t.x.link (zPm (zCp t))
 have hM : nxtT t.x.link (zPm (zCp t)) = zBv t := rfl
 rw [hM] at q3
 unfold lnkV at q3
 have hmp : ∀ l : List MsgN, zAz (l.map msgV) := zOa
 have hlx := yJb (zCp t) 126 (zCp t).length
 have hlN : zGz (zCp t) 126 = zRf (zCp t) 126 (zCp t).length := rfl
 rw [← hlN] at hlx
 have hR : yBo (zCp t) = if 0 ≤ zGz (zCp t) 126 ∧ ((zCp t).length : Int) - zGz (zCp t) 126 ≤ 2048 then (zCp t).drop (zGz (zCp t) 126).toNat else [] := rfl
 have q4 := fun b => zPx b
 have hmn : (if (t.i.bytes.length : Int) < 8192 then (t.i.bytes.length : Int) else 8192) = ((min t.i.bytes.length 8192 : Nat) : Int) := by split <;> omega
 have htk : List.take (min t.i.bytes.length 8192) (bts t.i.bytes) = bts (t.i.bytes.take 8192) := by
  rw [zBy]; congr 1;by_cases h : t.i.bytes.length ≤ 8192
  ·rw [List.take_of_length_le (by omega), List.take_of_length_le (by omega)]
  ·rw [show min t.i.bytes.length 8192 = 8192 by omega]
 have hpA := zAg (zCp t)
 have hcl : ∀ b : List UInt8, b.length ≤ 1048576 → FnR Tryz.prog 61 [] [.sl 1 (bts b)] [⟨.arr, 5, 1, bts b⟩] (.obj 0 b.length) := by
  intro b hb;have := zZa (b.map fun x => (x.toNat : Int)) (by simpa using hb)
  have e : lts (b.map fun x => (x.toNat : Int)) = bts b := by simp [lts, bts]
  rw [e, List.length_map] at this;exact this
 have hF : ∀ k, heF t k = ⟨[(80, .int .i64 k), (79, .int .i64 (zBv t).length), (78, .sl 3 ((zBv t).map msgV)), (10, .bool (heK t.s t.x.told (zBv t) k).2), (0, .ptr 0 1 0 0)], [(0, tckO (heT t k))], 8192, [], 143, 1, tabG⟩ := fun _ => rfl
 have hml : (zBv t).length ≤ 10240 := by
  have h1 : (zPm (zCp t)).length ≤ (zCp t).length := zYw _ _;have h2 := zYc t.x.link (zPm (zCp t)) (zPm (zCp t)).length;unfold zBv nxtT;split
  ·omega
  ·simp
 have hb0 : bts ([] : List UInt8) = [] := rfl
 have hPd : zOl t = heK t.s t.x.told (zBv t) (zBv t).length := rfl
 have qm := zHk t.x.age 1048576 (by omega)
 have hsv := zAs t.s
 by_cases hc : 0 ≤ zGz (zCp t) 126 ∧ ((zCp t).length : Int) - zGz (zCp t) 126 ≤ 2048
 ·rw [if_pos hc] at hR;have q5 := hcl ((zCp t).drop (zGz (zCp t) 126).toNat) (by rw [List.length_drop]; omega)
  generalize zGz (zCp t) 126 = last at *;obtain ⟨ln, rfl⟩ := Int.eq_ofNat_of_zero_le hc.1;have hdr : List.drop ln (List.take (zCp t).length (bts (zCp t))) = bts ((zCp t).drop ln) := by rw [List.take_of_length_le (by rw [zAq]; omega), zDx]
  rw [Int.toNat_natCast] at q5 hR;refine zAw mixed Tryz.func37 rfl rfl (by simp [Tryz.ntmps37]) (by simp) fun hwf E => ?_
  clear hwf;simp (disch := omega) [Tryz.ntmps37, go_sem, tckO, tckD, tckL, hmn, htk];refine ⟨by omega, ?_⟩
  refine zAf q1 [] [] [320] [] ?_ ?_ ?_ (.inl ⟨rfl, .inr (by simp [go_sem])⟩) (fun _ => ?_) (by simp [tabG, go_sem])
  iterate 3 (· simp [go_sem])
  simp (disch := omega) [go_sem];refine ⟨.inl (by kernel_rfl), ?_⟩
  refine zCk q2 [336] [(336, ⟨.ro, 5, 1, bts (zCp t)⟩)] (by simp [go_sem]) (by simp [go_sem]) (by simp [go_sem]) (fun _ => ?_) (by simp [tabG, go_sem])
  simp (disch := omega) [go_sem];refine zAc (fun b1 => ?_) (fun b1 => ?_) <;> simp at b1
  ·have hhd : List.drop ln (bts (zCp t)) = bts ((zCp t).drop ln) := zDx _ _;simp (disch := omega) [go_sem, hdr];refine ⟨by omega, ?_⟩
   refine zAf q5 [] [] [] [] ?_ ?_ ?_ (.inl ⟨rfl, .inl rfl⟩) (fun _ => ?_) (by simp [tabG, go_sem])
   iterate 3 (· simp [go_sem])
   simp (disch := omega) [go_sem];refine zAa q3 [] (by simp [go_sem]) (.inl rfl) (by simp [go_sem]) (fun _ => ?_) (by simp [tabG, go_sem])
   simp (disch := omega) [go_sem];refine zAe mixed (heF t) (fun k => k ≤ (zBv t).length) (fun k => (zBv t).length - k) 0 (by omega) ?_ ?_
   ·refine Le.mk [(0, some 0)] [0] ⟨rfl, rfl, rfl⟩ ?_ ?_ ?_ <;> simp [go_sem, tckO, tckD, tckL, heF, heT, heK, hR]
   ·intro k hk;rw [hF k];simp (disch := omega) [go_sem, tckO, tckD, tckL, heT];refine zAc (fun d1 => ?_) (fun d1 => ?_) <;> simp at d1
    ·have hsu : heK t.s t.x.told (zBv t) (k + 1) = lheS t.s (heK t.s t.x.told (zBv t) k) (zBv t)[k] := by simp [heK, d1]
     have hF1 := hF (k + 1);have q6 := ySm (zBv t)[k].body;have q7 := fun p => zPu t.s p hOk
     unfold lheS at hsu;generalize hx : (zBv t)[k] = m at *;obtain ⟨kd, sq, bd⟩ := m;have hpd := zAg bd;have hmV : msgV ⟨kd, sq, bd⟩ = .agg [.int .u8 kd, .int .u32 sq, .sl 1 (bts bd)] := rfl;simp only at hsu q6;generalize ocC bd = C at *;generalize ocE bd = e at *;generalize hK1 : heK t.s t.x.told (zBv t) (k + 1) = K1 at *;generalize heK t.s t.x.told (zBv t) k = K0 at *;obtain ⟨cs, cc, co, csp⟩ := C;unfold lcmV at q6;unfold CmdN.pln at hsu;simp only at hsu q6;have hcp := zAn csp;simp (disch := omega) [go_sem, d1, hx, hmV];refine zAa q6 [] (by simp [go_sem]) (.inl rfl) (by simp [go_sem]) (fun _ => ?_)
     simp (disch := omega) [go_sem];refine ⟨.inl (by kernel_rfl), ?_⟩
     refine zAc (fun d2 => ?_) (fun d2 => ?_) <;> simp at d2
     ·rw [if_pos ⟨d2.1.1, d2.1.2, d2.2⟩] at hsu;have q8 := q7 ⟨cc, co, csp⟩;have hpv : plnV ⟨cc, co, csp⟩ = .agg [.int .i64 cc, .int .i64 co, .sl 1 (ints csp)] := rfl;have hcv : ∀ p : Pln, plnV p = .agg [.int .i64 p.cycle, .int .i64 p.offset, .sl 1 (ints p.splits)] := fun _ => rfl
      rw [hsv, hpv, hcv] at q8;generalize zOx t.s ⟨cc, co, csp⟩ = Q at *;subst hsu;simp (disch := omega) [go_sem];refine zAa q8 [] (by simp [go_sem]) (.inl rfl) (by simp [go_sem]) (fun _ => ?_) (by simp [tabG, go_sem])
      simp (disch := omega) [go_sem];refine ⟨.inl (by kernel_rfl), ?_⟩
      refine zAb (k + 1) (by omega) (by omega) (Le.mk [(0, some 0)] [0] ⟨rfl, rfl, rfl⟩ ?_ ?_ ?_) <;> simp [go_sem, tckO, tckD, tckL, hF1, heT, hK1]
     ·rw [if_neg (fun h => d2 h.1 h.2.1 h.2.2)] at hsu
      subst hsu;simp (disch := omega) [go_sem];refine zAb (k + 1) (by omega) (by omega) (Le.mk [(0, some 0)] [0] ⟨rfl, rfl, rfl⟩ ?_ ?_ ?_) <;> simp [go_sem, tckO, tckD, tckL, hF1, heT, hK1]
    ·have hkk : k = (zBv t).length := by omega
     subst hkk;simp (disch := omega) [go_sem];refine zAa qm [] (by simp [go_sem]) (.inl rfl) (by simp [go_sem]) (fun _ => ?_)
     simp (disch := omega) [go_sem];rw [hPd];generalize heK t.s t.x.told (zBv t) (zBv t).length = KK at *;obtain ⟨kp, kf⟩ := KK;cases kf with
     | true =>
      simp (disch := omega) [go_sem];refine Le.mk [(0, some 0)] [0] ⟨rfl, rfl, rfl⟩ ?_ ?_ ?_ <;> simp [go_sem, zEm, hPd, hR]
     | false =>
      simp (disch := omega) [go_sem];refine Le.mk [(0, some 0)] [0] ⟨rfl, rfl, rfl⟩ ?_ ?_ ?_ <;> simp [go_sem, zEm, hPd, hR]
  ·exact absurd b1 (by omega)
 ·rw [if_neg hc] at hR;generalize zGz (zCp t) 126 = last at *;refine zAw mixed Tryz.func37 rfl rfl (by simp [Tryz.ntmps37]) (by simp) fun hwf E => ?_
  clear hwf;simp (disch := omega) [Tryz.ntmps37, go_sem, tckO, tckD, tckL, hmn, htk];refine ⟨by omega, ?_⟩
  refine zAf q1 [] [] [320] [] ?_ ?_ ?_ (.inl ⟨rfl, .inr (by simp [go_sem])⟩) (fun _ => ?_) (by simp [tabG, go_sem])
  iterate 3 (· simp [go_sem])
  simp (disch := omega) [go_sem];refine ⟨.inl (by kernel_rfl), ?_⟩
  refine zCk q2 [336] [(336, ⟨.ro, 5, 1, bts (zCp t)⟩)] (by simp [go_sem]) (by simp [go_sem]) (by simp [go_sem]) (fun _ => ?_) (by simp [tabG, go_sem])
  simp (disch := omega) [go_sem];refine zAc (fun b1 => ?_) (fun b1 => ?_) <;> simp at b1
  ·exact absurd b1 (by omega)
  ·simp (disch := omega) [go_sem];refine zAa q3 [] (by simp [go_sem]) (.inl rfl) (by simp [go_sem]) (fun _ => ?_) (by simp [tabG, go_sem])
   simp (disch := omega) [go_sem];refine zAe mixed (heF t) (fun k => k ≤ (zBv t).length) (fun k => (zBv t).length - k) 0 (by omega) ?_ ?_
   ·refine Le.mk [(0, some 0)] [0] ⟨rfl, rfl, rfl⟩ ?_ ?_ ?_ <;> simp [go_sem, tckO, tckD, tckL, heF, heT, heK, hR, hb0]
   ·intro k hk;rw [hF k];simp (disch := omega) [go_sem, tckO, tckD, tckL, heT];refine zAc (fun d1 => ?_) (fun d1 => ?_) <;> simp at d1
    ·have hsu : heK t.s t.x.told (zBv t) (k + 1) = lheS t.s (heK t.s t.x.told (zBv t) k) (zBv t)[k] := by simp [heK, d1]
     have hF1 := hF (k + 1);have q6 := ySm (zBv t)[k].body;have q7 := fun p => zPu t.s p hOk
     unfold lheS at hsu;generalize hx : (zBv t)[k] = m at *;obtain ⟨kd, sq, bd⟩ := m;have hpd := zAg bd;have hmV : msgV ⟨kd, sq, bd⟩ = .agg [.int .u8 kd, .int .u32 sq, .sl 1 (bts bd)] := rfl;simp only at hsu q6;generalize ocC bd = C at *;generalize ocE bd = e at *;generalize hK1 : heK t.s t.x.told (zBv t) (k + 1) = K1 at *;generalize heK t.s t.x.told (zBv t) k = K0 at *;obtain ⟨cs, cc, co, csp⟩ := C;unfold lcmV at q6;unfold CmdN.pln at hsu;simp only at hsu q6;have hcp := zAn csp;simp (disch := omega) [go_sem, d1, hx, hmV];refine zAa q6 [] (by simp [go_sem]) (.inl rfl) (by simp [go_sem]) (fun _ => ?_)
     simp (disch := omega) [go_sem];refine ⟨.inl (by kernel_rfl), ?_⟩
     refine zAc (fun d2 => ?_) (fun d2 => ?_) <;> simp at d2
     ·rw [if_pos ⟨d2.1.1, d2.1.2, d2.2⟩] at hsu;have q8 := q7 ⟨cc, co, csp⟩;have hpv : plnV ⟨cc, co, csp⟩ = .agg [.int .i64 cc, .int .i64 co, .sl 1 (ints csp)] := rfl;have hcv : ∀ p : Pln, plnV p = .agg [.int .i64 p.cycle, .int .i64 p.offset, .sl 1 (ints p.splits)] := fun _ => rfl
      rw [hsv, hpv, hcv] at q8;generalize zOx t.s ⟨cc, co, csp⟩ = Q at *;subst hsu;simp (disch := omega) [go_sem];refine zAa q8 [] (by simp [go_sem]) (.inl rfl) (by simp [go_sem]) (fun _ => ?_) (by simp [tabG, go_sem])
      simp (disch := omega) [go_sem];refine ⟨.inl (by kernel_rfl), ?_⟩
      refine zAb (k + 1) (by omega) (by omega) (Le.mk [(0, some 0)] [0] ⟨rfl, rfl, rfl⟩ ?_ ?_ ?_) <;> simp [go_sem, tckO, tckD, tckL, hF1, heT, hK1]
     ·rw [if_neg (fun h => d2 h.1 h.2.1 h.2.2)] at hsu
      subst hsu;simp (disch := omega) [go_sem];refine zAb (k + 1) (by omega) (by omega) (Le.mk [(0, some 0)] [0] ⟨rfl, rfl, rfl⟩ ?_ ?_ ?_) <;> simp [go_sem, tckO, tckD, tckL, hF1, heT, hK1]
    ·have hkk : k = (zBv t).length := by omega
     subst hkk;simp (disch := omega) [go_sem];refine zAa qm [] (by simp [go_sem]) (.inl rfl) (by simp [go_sem]) (fun _ => ?_)
     simp (disch := omega) [go_sem];rw [hPd];generalize heK t.s t.x.told (zBv t) (zBv t).length = KK at *;obtain ⟨kp, kf⟩ := KK;cases kf with
     | true =>
      simp (disch := omega) [go_sem];refine Le.mk [(0, some 0)] [0] ⟨rfl, rfl, rfl⟩ ?_ ?_ ?_ <;> simp [go_sem, zEm, hPd, hR]
     | false =>
      simp (disch := omega) [go_sem];refine Le.mk [(0, some 0)] [0] ⟨rfl, rfl, rfl⟩ ?_ ?_ ?_ <;> simp [go_sem, zEm, hPd, hR]
end
section
attribute [local go_sem] zAq zAi
theorem yZh (b : List UInt8) (hb : b.length ≤ 1048576) : FnR Tryz.prog 61 [] [.sl 1 (bts b)] [⟨.arr, 5, 1, bts b⟩] (.obj 0 b.length) := by
 have := zZa (b.map fun x => (x.toNat : Int)) (by simpa using hb)
 have e : lts (b.map fun x => (x.toNat : Int)) = bts b := by simp [lts, bts]
 rw [e, List.length_map] at this
 exact this
def locL (x : LocN) : List V :=
 [.sl 1 (bts x.disk), .sl 3 (x.now.groups.map zBb), .int .i64 x.now.start, .bool x.now.flashed, .int .u8 x.rung.mode, .int .i64 x.rung.well, .bool x.rung.lat, .int .i64 x.sph, .int .i64 x.ssi, .bool x.link.any, .int .u32 x.link.last, .int .i64 x.link.age,
  .sl 1 (bts x.rest), .int .i64 x.told.cycle, .int .i64 x.told.offset, .sl 1 (ints x.told.splits), .int .i64 x.age, .sl 3 (x.puls.map pulV), .sl 5 (x.eyes.map zCo), .sl 5 (x.gaps.map gapV), .int .u32 x.calls, .int .i64 x.wrong, .int .i64 x.tick, .sl 1 (ints x.greens), .sl 1 (ints x.busy), .sl 1 (ints x.came), .int .u32 x.sent]
def locV (x : LocN) : V := .agg (locL x)
def pul0 : Pul := (false, false, 0)
def xEf : zCv := ⟨false, 0, 0, false, 0⟩
def gap0 : GapN := ⟨false, 0, 0, 0, 0⟩
noncomputable def zGl (s : Sit) (d : List UInt8) : LocN :=
 { disk := d, now := zHn s, rung := zIa (zCb d).mode, sph := 0, ssi := 0, link := ⟨false, 0, 0⟩, rest := [], told := ⟨0, 0, []⟩, age := 1048576, puls := List.replicate s.eyes.length pul0, eyes := List.replicate s.eyes.length xEf, gaps := List.replicate s.eyes.length gap0, calls := 0, wrong := 0, tick := 0, greens := List.replicate s.phases.length 0, busy := List.replicate s.phases.length 0, came := List.replicate s.phases.length 0, sent := 0 }
set_option maxHeartbeats 2000000 in
theorem zTm (s : Sit) (d : List UInt8) (hOk : zAk s) (hd : d.length ≤ 1048576) : FnD Tryz.prog 26 [sitV s, devV d] (locV (zGl s d)) tabG := by
 have hpu := (⟨zBn s.groups, zBm s.phases, zBo s.eyes, zAr s.plans, zBk s.apart, zBl s.between⟩ : _ ∧ _ ∧ _ ∧ _ ∧ _ ∧ _)
 have q1 := zKd d
 have q2 := yPg s
 rw [zGm hOk] at q2
 simp only [if_true] at q2
 have q3 := yZh d hd
 have q4 := zYj (zCb d).mode
 have hX : zGl s d = { disk := d, now := zHn s, rung := zIa (zCb d).mode, sph := 0, ssi := 0, link := ⟨false, 0, 0⟩, rest := [], told := ⟨0, 0, []⟩, age := 1048576, puls := List.replicate s.eyes.length pul0, eyes := List.replicate s.eyes.length xEf, gaps := List.replicate s.eyes.length gap0, calls := 0, wrong := 0, tick := 0, greens := List.replicate s.phases.length 0, busy := List.replicate s.phases.length 0, came := List.replicate s.phases.length 0, sent := 0 } := rfl
 have hsv := zAs s
 rw [hsv] at q2 ⊢
 generalize zGl s d = X at *
 generalize zCb d = k at *
 generalize zHj d = e at *
 generalize zHn s = F at *
 generalize zIa k.mode = R at *
 unfold devV kepV safV runV at *
 refine zAd mixed Tryz.func26 rfl rfl (by simp [Tryz.ntmps26]) fun hwf E => ?_
 clear hwf
 simp (disch := omega) [Tryz.ntmps26, go_sem]
 refine zAa q1 [] (by simp [go_sem]) (.inl rfl) (by simp [go_sem]) (fun _ => ?_)
 simp (disch := omega) [go_sem]
 refine zAa q2 [] (by simp [go_sem]) (.inl rfl) (by simp [go_sem]) (fun _ => ?_) (by simp [tabG, go_sem])
 simp (disch := omega) [go_sem]
 refine zAf q3 [] [] [] [] ?_ ?_ ?_ (.inl ⟨rfl, .inl rfl⟩) (fun _ => ?_) (by simp [tabG, go_sem])
 iterate 3 (· simp [go_sem])
 simp (disch := omega) [go_sem]
 refine zAa q4 [] (by simp [go_sem]) (.inl rfl) (by simp [go_sem]) (fun _ => ?_)
 simp (disch := omega) [go_sem]
 refine ⟨.inl (by kernel_rfl), ?_⟩
 have hel : s.eyes.length ≤ 24 := hOk.shaped.2.2.2.2.1
 have hpl : s.phases.length ≤ 8 := hOk.shaped.2.2.2.1.2
 refine ⟨.inl (by kernel_rfl), ⟨by omega, by omega⟩, ⟨by omega, by omega⟩, .inl (by kernel_rfl), ⟨by omega, by omega⟩, .inl (by kernel_rfl), ?_⟩
 have m1 : (List.replicate s.eyes.length pul0).map pulV = List.replicate s.eyes.length (.agg [.bool false, .bool false, .int .i64 0]) := by simp [pul0, pulV]
 have m2 : (List.replicate s.eyes.length xEf).map zCo = List.replicate s.eyes.length (.agg [.bool false, .int .i64 0, .int .u64 0, .bool false, .int .i64 0]) := by simp [xEf, zCo]
 have m3 : (List.replicate s.eyes.length gap0).map gapV = List.replicate s.eyes.length (.agg [.bool false, .int .i64 0, .int .i64 0, .int .i64 0, .int .u64 0]) := by simp [gap0, gapV]
 have m4 : ints (List.replicate s.phases.length 0) = List.replicate s.phases.length (.int .i64 0) := by simp [ints]
 have b0 : bts ([] : List UInt8) = [] := rfl
 have i0 : ints [] = [] := rfl
 have hpd := zAg d
 subst hX
 simp only [locV, locL, m1, m2, m3, m4, b0, i0]
 have r1 : ∀ (n : Nat) (v : V), v.pure → zAz (List.replicate n v) := fun n v h => by
  induction n with
  | zero => simp [zAz]
  | succ n ih => rw [List.replicate_succ]; exact ⟨h, ih⟩
 simp [go_sem, hpd, zAq]
 and_intros <;> exact zAt (r1 _ _ (by simp [go_sem]))
theorem zTk (x : LocN) : zAz (locL x) := by
 simp [locL, go_sem]
def loc0 : LocN := ⟨[], ⟨[], 0, false⟩, ⟨0, 0, false⟩, 0, 0, ⟨false, 0, 0⟩, [], ⟨0, 0, []⟩, 0, [], [], [], 0, 0, 0, [], [], [], 0⟩
theorem yTo (s : Sit) (d : List UInt8) (hd : d.length ≤ 1048576) (hOk : zAk s) (h2 : twoB d = true) : FnD Tryz.prog 12 [sitV s, devV d] (.tup [locV (zGl s d), .int .i64 0]) tabG := by
 have hpu := (⟨zBn s.groups, zBm s.phases, zBo s.eyes, zAr s.plans, zBk s.apart, zBl s.between⟩ : _ ∧ _ ∧ _ ∧ _ ∧ _ ∧ _)
 have q1 := zCe s
 rw [zGm hOk] at q1
 have q2 := zQj d
 rw [h2] at q2
 have q3 := zTm s d hOk hd
 have hX := zTk (zGl s d)
 have hsv := zAs s
 rw [hsv] at q1 q3 ⊢
 unfold devV locV at *
 have hLl : (locL (zGl s d)).length = 27 := rfl
 generalize locL (zGl s d) = L at *
 refine zAd mixed Tryz.func12 rfl rfl (by simp [Tryz.ntmps12]) fun hwf E => ?_
 clear hwf
 simp (disch := omega) [Tryz.ntmps12, go_sem]
 refine zAa q1 [] (by simp [go_sem]) (.inl rfl) (by simp [go_sem]) (fun _ => ?_) (by simp [tabG, go_sem])
 simp (disch := omega) [go_sem]
 refine zAa q2 [] (by simp [go_sem]) (.inl rfl) (by simp [go_sem]) (fun _ => ?_)
 simp (disch := omega) [go_sem]
 refine zAa q3 [] (by simp [go_sem]) (.inl rfl) (by simp [go_sem, hX]) (fun _ => ?_) (by simp [tabG, go_sem])
 simp (disch := omega) [go_sem, hLl]
theorem yGb (s : Sit) (d : List UInt8) (hOk : ¬ zAk s) : FnD Tryz.prog 12 [sitV s, devV d] (.tup [locV loc0, .int .i64 50]) tabG := by
 have q1 := zCe s
 rw [zPv hOk] at q1
 have hsv := zAs s
 rw [hsv] at q1 ⊢
 unfold devV at *
 refine zAd mixed Tryz.func12 rfl rfl (by simp [Tryz.ntmps12]) fun hwf E => ?_
 clear hwf
 simp (disch := omega) [Tryz.ntmps12, go_sem]
 refine zAa q1 [] (by simp [go_sem]) (.inl rfl) (by simp [go_sem]) (fun _ => ?_) (by simp [tabG, go_sem])
 simp (disch := omega) [go_sem]
 simp [locV, locL, loc0, bts, ints, go_sem]
theorem yGc (s : Sit) (d : List UInt8) (hOk : zAk s) (h2 : twoB d = false) : FnD Tryz.prog 12 [sitV s, devV d] (.tup [locV loc0, .int .i64 8]) tabG := by
 have q1 := zCe s
 rw [zGm hOk] at q1
 have q2 := zQj d
 rw [h2] at q2
 have hsv := zAs s
 rw [hsv] at q1 ⊢
 unfold devV at *
 refine zAd mixed Tryz.func12 rfl rfl (by simp [Tryz.ntmps12]) fun hwf E => ?_
 clear hwf
 simp (disch := omega) [Tryz.ntmps12, go_sem]
 refine zAa q1 [] (by simp [go_sem]) (.inl rfl) (by simp [go_sem]) (fun _ => ?_) (by simp [tabG, go_sem])
 simp (disch := omega) [go_sem]
 refine zAa q2 [] (by simp [go_sem]) (.inl rfl) (by simp [go_sem]) (fun _ => ?_)
 simp (disch := omega) [go_sem]
 simp [locV, locL, loc0, bts, ints, go_sem]
end
section
attribute [local go_sem] zAq zAi
def snxS (s : Sit) (w : SafN) (l : List Int) : SafN := if mayS s w = false then saf0 else if zCj s w.groups w.start w.flashed l ≠ 0 then w else zBj s w l
def snxF (s : Sit) (w : SafN) (l : List Int) : Int := if mayS s w = false then 0 else zCj s w.groups w.start w.flashed l
def snxE (s : Sit) (w : SafN) : Int := if mayS s w = false then 8 else 0
theorem yJw (s : Sit) (w : SafN) (l : List Int) (hOk : zAk s) (hw : w.groups.length ≤ 1048576) : FnD Tryz.prog 46 [sitV s, safV w, .sl 1 (lts l)] (.tup [safV (snxS s w l), .int .u8 (snxF s w l), .int .i64 (snxE s w)]) tabG := by
 have q := zWw s w l hw
 have e : zHz s w l = .tup [safV (snxS s w l), .int .u8 (snxF s w l), .int .i64 (snxE s w)] := by
  unfold zHz snxS snxF snxE;rw [zGm hOk, if_neg (by simp)]
  by_cases h1 : mayS s w = false
  ·simp [h1]
  ·rw [if_neg h1, if_neg h1, if_neg h1, if_neg h1];by_cases h2 : zCj s w.groups w.start w.flashed l ≠ 0
   ·rw [if_pos h2, if_pos h2]
   ·rw [if_neg h2, if_neg h2];rw [show zCj s w.groups w.start w.flashed l = 0 by simpa using h2]
 rw [e] at q
 exact q
def zNl (t : TckN) : Int := min (max 0 t.i.whole) t.writes.length
def yQb (t : TckN) : Int := if zNl t = t.writes.length then 0 else min (max 0 t.i.torn) 63
def yBb (t : TckN) : List UInt8 := doL t.x.disk t.writes (zNl t) (yQb t)
noncomputable def zOe (t : TckN) : TckN := { t with lights := zFx t.s, x := { zGl t.s (yBb t) with now := snxS t.s t.x.now (zFx t.s), tick := zGa t.x.tick 1073741824, sent := t.x.sent } }
set_option maxHeartbeats 4000000 in
theorem yTb (t : TckN) (hOk : zAk t.s) (hd : (yBb t).length ≤ 1048576) (hw : t.x.now.groups.length ≤ 1048576) (htk : 0 ≤ t.x.tick ∧ t.x.tick ≤ 1073741824) : FnR Tryz.prog 39 [tckO t] [.ptr 0 1 0 0] [tckO (zOe t)] (.tup []) tabG := by
 have hsh := hOk.shaped.1
 have q1 := yYw t.x.disk t.writes (zNl t) (yQb t)
 have q2 := zTm t.s (yBb t) hOk hd
 have q3 := yJw t.s t.x.now (zFx t.s) hOk hw
 have q4 := zHk t.x.tick 1073741824 (by omega)
 have hD : doL t.x.disk t.writes (zNl t) (yQb t) = yBb t := rfl
 have hT : yQb t = if zNl t = t.writes.length then 0 else min (max 0 t.i.torn) 63 := rfl
 have hW : zNl t = min (max 0 t.i.whole) t.writes.length := rfl
 have hwI : (if (t.writes.length : Int) < (if 0 < t.i.whole then t.i.whole else 0) then (t.writes.length : Int) else (if 0 < t.i.whole then t.i.whole else 0)) = zNl t := by
  rw [hW]; split <;> split at * <;> omega
 have htI : (if 63 < (if 0 < t.i.torn then t.i.torn else 0) then (63 : Int) else (if 0 < t.i.torn then t.i.torn else 0)) = min (max 0 t.i.torn) 63 := by
  split <;> split at * <;> omega
 rw [hD] at q1
 generalize doE t.x.disk t.writes (zNl t) (yQb t) = de at *
 have hLT : zOe t = { t with lights := zFx t.s, x := { zGl t.s (yBb t) with now := snxS t.s t.x.now (zFx t.s), tick := zGa t.x.tick 1073741824, sent := t.x.sent } } := rfl
 generalize zOe t = LT at *
 generalize zGl t.s (yBb t) = X at *
 generalize yBb t = D at *
 have q5 := zWo { t with x := X } hsh.1 (by simp only; omega)
 simp only at q5
 generalize zFx t.s = F at *
 generalize snxS t.s t.x.now F = N at *
 generalize snxF t.s t.x.now F = nf at *
 generalize snxE t.s t.x.now = ne at *
 have hsv := zAs t.s
 rw [hsv] at q2 q3
 unfold devV at q1 q2
 unfold locV locL at q2
 unfold safV at q3
 subst hLT
 have hpL := zDd F
 cases hb : (zNl t == (t.writes.length : Int)) with
 | true =>
  rw [if_pos (by simpa using hb)] at hT
  rw [hT] at q1;refine zAw mixed Tryz.func39 rfl rfl (by simp [Tryz.ntmps39]) (by simp) fun hwf E => ?_
  clear hwf;simp (disch := omega) [Tryz.ntmps39, go_sem, tckO, tckD, tckL, hwI, htI, hb];refine ⟨.inl (by kernel_rfl), ?_⟩
  refine zAa q1 [] (by simp [go_sem]) (.inl rfl) (by simp [go_sem]) (fun _ => ?_)
  simp (disch := omega) [go_sem];refine ⟨.inl (by kernel_rfl), ?_⟩
  refine zAa q2 [] (by simp [go_sem]) (.inl rfl) (by simp [go_sem]) (fun _ => ?_) (by simp [tabG, go_sem])
  simp (disch := omega) [go_sem];refine ⟨.inl (by kernel_rfl), ?_⟩
  refine zBr q5 [(0, some 0)] [0] ?_ ?_ ?_ ?_ (fun _ => ?_) (by simp [tabG, go_sem])
  ·simp [go_sem]
  iterate 3 (· simp [go_sem, tckO, tckD, tckL])
  simp (disch := omega) [go_sem, tckO, tckD, tckL];refine zAa q3 [] (by simp [go_sem]) (.inl rfl) (by simp [go_sem]) (fun _ => ?_) (by simp [tabG, go_sem])
  simp (disch := omega) [go_sem];refine ⟨.inl (by kernel_rfl), ?_⟩
  refine zAa q4 [] (by simp [go_sem]) (.inl rfl) (by simp [go_sem]) (fun _ => ?_)
  simp (disch := omega) [go_sem];refine ⟨.inl (by kernel_rfl), ?_⟩
  refine Le.mk [(0, some 0)] [0] ⟨rfl, rfl, rfl⟩ ?_ ?_ ?_ <;> simp [go_sem]
 | false =>
  rw [if_neg (by simpa using hb)] at hT
  rw [hT] at q1;refine zAw mixed Tryz.func39 rfl rfl (by simp [Tryz.ntmps39]) (by simp) fun hwf E => ?_
  clear hwf;simp (disch := omega) [Tryz.ntmps39, go_sem, tckO, tckD, tckL, hwI, htI, hb];refine ⟨.inl (by kernel_rfl), ?_⟩
  refine zAa q1 [] (by simp [go_sem]) (.inl rfl) (by simp [go_sem]) (fun _ => ?_)
  simp (disch := omega) [go_sem];refine ⟨.inl (by kernel_rfl), ?_⟩
  refine zAa q2 [] (by simp [go_sem]) (.inl rfl) (by simp [go_sem]) (fun _ => ?_) (by simp [tabG, go_sem])
  simp (disch := omega) [go_sem];refine ⟨.inl (by kernel_rfl), ?_⟩
  refine zBr q5 [(0, some 0)] [0] ?_ ?_ ?_ ?_ (fun _ => ?_) (by simp [tabG, go_sem])
  ·simp [go_sem]
  iterate 3 (· simp [go_sem, tckO, tckD, tckL])
  simp (disch := omega) [go_sem, tckO, tckD, tckL];refine zAa q3 [] (by simp [go_sem]) (.inl rfl) (by simp [go_sem]) (fun _ => ?_) (by simp [tabG, go_sem])
  simp (disch := omega) [go_sem];refine ⟨.inl (by kernel_rfl), ?_⟩
  refine zAa q4 [] (by simp [go_sem]) (.inl rfl) (by simp [go_sem]) (fun _ => ?_)
  simp (disch := omega) [go_sem];refine ⟨.inl (by kernel_rfl), ?_⟩
  refine Le.mk [(0, some 0)] [0] ⟨rfl, rfl, rfl⟩ ?_ ?_ ?_ <;> simp [go_sem]
end
section
attribute [local go_sem] zAq zAi
noncomputable def zKu (s : Sit) (n : Int) : Bool := decide (zDq s n = 0) && decide (s.feed ≤ n)
theorem xEj (s : Sit) (n : Int) : FnD Tryz.prog 96 [sitV s, .int .i64 n] (.tup [.bool (zKu s n), .int .i64 (zDq s n)]) tabG := by
 have q := yNn s n
 have e : zQk s n = .tup [.bool (zKu s n), .int .i64 (zDq s n)] := by
  unfold zQk zKu;by_cases h : zDq s n = 0
  ·simp [h]
  ·simp [h]
 rw [e] at q
 exact q
noncomputable def zFd (t : TckN) : Int := if (zJa t.s t.x.wrong (zBi t.x.now.groups) t.i.back).2 ≠ 0 then zGa t.x.wrong 1048576 else (zJa t.s t.x.wrong (zBi t.x.now.groups) t.i.back).1
noncomputable def zHo (t : TckN) : TckN := { t with x := { t.x with wrong := zFd t } }
noncomputable def zFp (t : TckN) : FacN := ⟨!yKw t.x.told && decide (t.x.age < t.s.watch), !t.i.rot && decide (zHj t.x.disk = 0) && decide (0 < (zCb t.x.disk).plans.length), (zXo t.s t.x.eyes).1, !zKu t.s (zFd t)⟩
def faF (t : TckN) (k : Nat) : St := ⟨[(21, .int .i64 k), (20, .int .i64 t.x.now.groups.length), (19, .sl 3 (t.x.now.groups.map zBb)), (4, .obj 4096 k), (2, .ptr 16 1 0 0), (3, .ptr 32 1 0 0), (0, .ptr 0 1 0 0)],
 [(0, tckO t), (16, ⟨.box, 104, 4, [.agg [.bool false, .bool false, .bool false, .bool false]]⟩), (32, ⟨.box, 106, 3, [.agg [.int .i64 0, .int .u8 0, .nilS]]⟩), (4096, ⟨.arr, 5, 1, lts ((zBi t.x.now.groups).take k)⟩)], 8192, [], 135, 1, tabG⟩
set_option maxHeartbeats 4000000 in
theorem yOb (t : TckN) (hw : 0 ≤ t.x.wrong ∧ t.x.wrong ≤ 1048576) (hg : t.x.now.groups.length ≤ 1048576) : FnR Tryz.prog 42 [tckO t] [.ptr 0 1 0 0] [tckO (zHo t)] (.tup [facV (zFp t), kepV (zCb t.x.disk)]) tabG := by
 have q1 := zZf t.s t.x.wrong (zBi t.x.now.groups) t.i.back
 have q2 := zHk t.x.wrong 1048576 (by omega)
 have q3 := xEj t.s (zFd t)
 have q4 := zKd t.x.disk
 have q5 := zZp t.s t.x.eyes
 have q6 := yPj t.x.told
 have hFT : zHo t = { t with x := { t.x with wrong := zFd t } } := rfl
 have hFF : zFp t = ⟨!yKw t.x.told && decide (t.x.age < t.s.watch), !t.i.rot && decide (zHj t.x.disk = 0) && decide (0 < (zCb t.x.disk).plans.length), (zXo t.s t.x.eyes).1, !zKu t.s (zFd t)⟩ := rfl
 have hWN : zFd t = if (zJa t.s t.x.wrong (zBi t.x.now.groups) t.i.back).2 ≠ 0 then zGa t.x.wrong 1048576 else (zJa t.s t.x.wrong (zBi t.x.now.groups) t.i.back).1 := rfl
 have hsl : (zBi t.x.now.groups).length = t.x.now.groups.length := zDs _
 have hF0 : ∀ k, faF t k = ⟨[(21, .int .i64 k), (20, .int .i64 t.x.now.groups.length), (19, .sl 3 (t.x.now.groups.map zBb)), (4, .obj 4096 k), (2, .ptr 16 1 0 0), (3, .ptr 32 1 0 0), (0, .ptr 0 1 0 0)],
  [(0, tckO t), (16, ⟨.box, 104, 4, [.agg [.bool false, .bool false, .bool false, .bool false]]⟩), (32, ⟨.box, 106, 3, [.agg [.int .i64 0, .int .u8 0, .nilS]]⟩), (4096, ⟨.arr, 5, 1, lts ((zBi t.x.now.groups).take k)⟩)], 8192, [], 135, 1, tabG⟩ := fun _ => rfl
 have hsv := zAs t.s
 have hpv : plnV t.x.told = .agg [.int .i64 t.x.told.cycle, .int .i64 t.x.told.offset, .sl 1 (ints t.x.told.splits)] := rfl
 rw [hsv] at q1 q3 q5
 rw [hpv] at q6
 unfold devV kepV at q4
 have hl0 : lts [] = [] := rfl
 refine zAw mixed Tryz.func42 rfl rfl (by simp [Tryz.ntmps42]) (by simp) fun hwf E => ?_
 clear hwf
 simp (disch := omega) [Tryz.ntmps42, go_sem, tckO, tckD, tckL]
 refine zAe mixed (faF t) (fun k => k ≤ t.x.now.groups.length) (fun k => t.x.now.groups.length - k) 0 (by omega) ?_ ?_
 ·refine Le.mk [(0, some 0), (16, some 16), (32, some 32), (4096, none)] [0, 16, 32] ⟨rfl, rfl, rfl⟩ ?_ ?_ ?_ <;> simp [go_sem, tckO, tckD, tckL, faF, hl0]
 ·intro k hk;rw [hF0];simp (disch := omega) [go_sem, tckO, tckD, tckL];refine zAc (fun c1 => ?_) (fun c1 => ?_) <;> simp at c1
  ·have hsu : lts ((zBi t.x.now.groups).take (k + 1)) = lts ((zBi t.x.now.groups).take k) ++ [.int .u8 (t.x.now.groups[k]).aspect] := by
    rw [List.take_succ_eq_append_getElem (by omega)]; simp [lts, zBi]
   have hsn : zBb t.x.now.groups[k] = .agg [.int .u8 (t.x.now.groups[k]).aspect, .int .i64 (t.x.now.groups[k]).since, .int .i64 (t.x.now.groups[k]).ended] := rfl;have hlk : (lts ((zBi t.x.now.groups).take k)).length = k := by rw [zKq, List.length_take]; omega
   simp (disch := omega) [go_sem, hlk, c1, hsn];refine ⟨by omega, ?_⟩
   refine zAb (k + 1) (by omega) (by omega) (Le.mk [(0, some 0), (16, some 16), (32, some 32), (4096, some 4096)] [0, 16, 32, 4096] ⟨rfl, rfl, rfl⟩ ?_ ?_ ?_) <;> simp [go_sem, tckO, tckD, tckL, hF0, hsu]
  ·have hkk : k = t.x.now.groups.length := by omega
   subst hkk;rw [List.take_of_length_le (by omega)]
   have hpk : zAz ((zCb t.x.disk).plans.map plnV) := zAr _;generalize zHo t = FT at *;generalize zFp t = FF at *;subst hFT hFF;generalize zFd t = wn at *;generalize hB : zJa t.s t.x.wrong (zBi t.x.now.groups) t.i.back = B at *;obtain ⟨bn, be⟩ := B;simp only at q1 hWN;simp (disch := omega) [go_sem, facV, kepV];refine zAa q1 [4096] (by simp [go_sem, hsl]) (.inr (by simp [go_sem])) (by simp [go_sem]) (fun _ => ?_) (by simp [tabG, go_sem])
   simp (disch := omega) [go_sem];refine ⟨.inl (by kernel_rfl), ?_⟩
   by_cases hbe : be = 0
   ·rw [if_neg (by simpa using hbe)] at hWN
    subst hWN;refine zAc (fun b1 => ?_) (fun b1 => ?_) <;> simp at b1
    ·exact absurd hbe b1
    ·simp (disch := omega) [go_sem];refine zAa q3 [] (by simp [go_sem]) (.inl rfl) (by simp [go_sem]) (fun _ => ?_) (by simp [tabG, go_sem])
     simp (disch := omega) [go_sem];refine zAa q4 [] (by simp [go_sem]) (.inl rfl) (by simp [go_sem]) (fun _ => ?_)
     simp (disch := omega) [go_sem];refine zAa q5 [] (by simp [go_sem]) (.inl rfl) (by simp [go_sem]) (fun _ => ?_) (by simp [tabG, go_sem])
     simp (disch := omega) [go_sem];refine ⟨.inl (by kernel_rfl), ?_⟩
     refine zAa q6 [] (by simp [go_sem]) (.inl rfl) (by simp [go_sem]) (fun _ => ?_)
     simp (disch := omega) [go_sem];refine ⟨.inl (by kernel_rfl), ?_⟩
     refine Le.mk [(0, some 0)] [0] ⟨rfl, rfl, rfl⟩ ?_ ?_ ?_ <;> simp [go_sem]
   ·rw [if_pos hbe] at hWN;subst hWN;refine zAc (fun b1 => ?_) (fun b1 => ?_) <;> simp at b1
    ·simp (disch := omega) [go_sem];refine zAa q2 [] (by simp [go_sem]) (.inl rfl) (by simp [go_sem]) (fun _ => ?_)
     simp (disch := omega) [go_sem];refine zAa q3 [] (by simp [go_sem]) (.inl rfl) (by simp [go_sem]) (fun _ => ?_) (by simp [tabG, go_sem])
     simp (disch := omega) [go_sem];refine zAa q4 [] (by simp [go_sem]) (.inl rfl) (by simp [go_sem]) (fun _ => ?_)
     simp (disch := omega) [go_sem];refine zAa q5 [] (by simp [go_sem]) (.inl rfl) (by simp [go_sem]) (fun _ => ?_) (by simp [tabG, go_sem])
     simp (disch := omega) [go_sem];refine ⟨.inl (by kernel_rfl), ?_⟩
     refine zAa q6 [] (by simp [go_sem]) (.inl rfl) (by simp [go_sem]) (fun _ => ?_)
     simp (disch := omega) [go_sem];refine ⟨.inl (by kernel_rfl), ?_⟩
     refine Le.mk [(0, some 0)] [0] ⟨rfl, rfl, rfl⟩ ?_ ?_ ?_ <;> simp [go_sem]
    ·exact absurd b1 hbe
end
section
attribute [local go_sem] zAq zAi
noncomputable def gpB (g : GapN) (n : Int) : Bool := decide (gapE g = 0) && (decide (0 ≤ n) && decide (n ≤ 1048576)) && (!g.up && decide (n ≤ g.opn))
noncomputable def gpE (g : GapN) (n : Int) : Int := if gapE g ≠ 0 then gapE g else if n < 0 ∨ 1048576 < n then 2 else 0
theorem yNw (g : GapN) (n : Int) : FnD Tryz.prog 162 [gapV g, .int .i64 n] (.tup [.bool (gpB g n), .int .i64 (gpE g n)]) := by
 have q := yBt g n
 have e : zRy g n = .tup [.bool (gpB g n), .int .i64 (gpE g n)] := by
  unfold zRy gpB gpE;by_cases h1 : gapE g = 0
  ·by_cases h2 : n < 0 ∨ 1048576 < n
   ·rw [if_neg (by simpa using h1), if_pos h2, if_neg (by simpa using h1), if_pos h2]
    have : (decide (0 ≤ n) && decide (n ≤ 1048576)) = false := by
     rw [Bool.and_eq_false_iff]; rcases h2 with h | h
     ·left; simp; omega
     ·right; simp; omega
    simp [this]
   ·rw [if_neg (by simpa using h1), if_neg h2, if_neg (by simpa using h1), if_neg h2]
    have : (decide (0 ≤ n) && decide (n ≤ 1048576)) = true := by simp; omega
    simp [this, h1]
  ·simp [h1]
 rw [e] at q
 exact q
noncomputable def paK (t : TckN) (i : Nat) : Nat → Bool
 | 0 => true
 | k + 1 => paK t i k && (gpB (t.x.gaps.getD k gap0) (t.s.phases.getD i ⟨0, 0, 0, 0, false⟩).gap || (t.s.eyes.getD k ⟨0, 0, 0, 0⟩).phase != (i : Int))
noncomputable def gaK (t : TckN) : Nat → Nat
 | 0 => 0
 | i + 1 => if paK t i t.s.eyes.length = true then zHh (gaK t i) i else gaK t i
noncomputable def yBs (t : TckN) : Nat := gaK t t.s.phases.length
theorem yUk (t : TckN) : ∀ i, gaK t i < 4294967296
 | 0 => by simp [gaK]
 | i + 1 => by
  have := yUk t i;simp only [gaK];split
  ·exact zJd this _
  ·exact this
noncomputable def ga1F (t : TckN) (i : Nat) : St := ⟨[(17, .int .i64 i), (16, .int .i64 t.s.phases.length), (15, .sl 5 (t.s.phases.map phaV)), (3, .int .u32 (gaK t i)), (0, .ptr 0 1 0 0)], [(0, tckO t)], 1024, [], 65, 1, []⟩
noncomputable def ga2F (t : TckN) (i : Nat) (p : Pha) (k : Nat) : St := ⟨[(28, .int .i64 k), (27, .int .i64 t.s.eyes.length), (26, .sl 4 (t.s.eyes.map eyeV)), (6, .bool (paK t i k)), (5, .ptr 512 1 0 0), (4, .int .i64 i), (17, .int .i64 i), (16, .int .i64 t.s.phases.length), (15, .sl 5 (t.s.phases.map phaV)), (3, .int .u32 (gaK t i)), (0, .ptr 0 1 0 0)], [(0, tckO t), (512, ⟨.box, 78, 5, [phaV p]⟩)], 4096, [], 65, 1, []⟩
set_option maxHeartbeats 4000000 in
theorem yUi (t : TckN) (h8 : t.s.phases.length ≤ 8) (h24 : t.s.eyes.length ≤ 24) (hg : t.x.gaps.length = t.s.eyes.length) : FnR Tryz.prog 102 [tckO t] [.ptr 0 1 0 0] [tckO t] (.int .u32 (yBs t)) := by
 have hN : yBs t = gaK t t.s.phases.length := rfl
 generalize yBs t = R at *
 have h1F : ∀ i, ga1F t i = ⟨[(17, .int .i64 i), (16, .int .i64 t.s.phases.length), (15, .sl 5 (t.s.phases.map phaV)), (3, .int .u32 (gaK t i)), (0, .ptr 0 1 0 0)], [(0, tckO t)], 1024, [], 65, 1, []⟩ := fun _ => rfl
 have h2F : ∀ i p k, ga2F t i p k = ⟨[(28, .int .i64 k), (27, .int .i64 t.s.eyes.length), (26, .sl 4 (t.s.eyes.map eyeV)), (6, .bool (paK t i k)), (5, .ptr 512 1 0 0), (4, .int .i64 i), (17, .int .i64 i), (16, .int .i64 t.s.phases.length), (15, .sl 5 (t.s.phases.map phaV)), (3, .int .u32 (gaK t i)), (0, .ptr 0 1 0 0)], [(0, tckO t), (512, ⟨.box, 78, 5, [phaV p]⟩)], 4096, [], 65, 1, []⟩ := fun _ _ _ => rfl
 refine zAw mixed Tryz.func102 rfl rfl (by simp [Tryz.ntmps102]) (by simp) fun hwf E => ?_
 clear hwf
 simp (disch := omega) [Tryz.ntmps102, go_sem, tckO, tckD, tckL]
 refine zAe mixed (ga1F t) (fun k => k ≤ t.s.phases.length) (fun k => t.s.phases.length - k) 0 (by omega) ?_ ?_
 ·refine Le.mk [(0, some 0)] [0] ⟨rfl, rfl, rfl⟩ ?_ ?_ ?_ <;> simp [go_sem, tckO, tckD, tckL, ga1F, gaK]
 ·intro i hi;rw [h1F];have hgl := yUk t i;simp (disch := omega) [go_sem, tckO, tckD, tckL];refine zAc (fun c1 => ?_) (fun c1 => ?_) <;> simp at c1
  ·have hgi : gaK t (i + 1) = if paK t i t.s.eyes.length = true then zHh (gaK t i) i else gaK t i := rfl
   have hpx : t.s.phases.getD i ⟨0, 0, 0, 0, false⟩ = t.s.phases[i] := by simp [c1]
   have hps : ∀ k, paK t i (k + 1) = (paK t i k && (gpB (t.x.gaps.getD k gap0) (t.s.phases.getD i ⟨0, 0, 0, 0, false⟩).gap || (t.s.eyes.getD k ⟨0, 0, 0, 0⟩).phase != (i : Int))) := fun _ => rfl
   rw [hpx] at hps;have hsh := zPl (show i < 32 by omega)
   have hb := zGc (i : Int);generalize hx : t.s.phases[i] = p at *;have hpv : phaV p = .agg [.int .u32 p.set, .int .i64 p.min, .int .i64 p.max, .int .i64 p.gap, .bool p.always] := rfl;simp (disch := omega) [go_sem, c1, hx, hpv];refine zAe mixed (ga2F t i p) (fun k => k ≤ t.s.eyes.length) (fun k => t.s.eyes.length - k) 0 (by omega) ?_ ?_
   ·refine Le.mk [(0, some 0), (512, some 1088)] [0, 1088] ⟨rfl, rfl, rfl⟩ ?_ ?_ ?_ <;> simp [go_sem, tckO, tckD, tckL, ga2F, paK, hpv]
   ·intro k hk;rw [h2F, hpv];simp (disch := omega) [go_sem, tckO, tckD, tckL];refine zAc (fun d1 => ?_) (fun d1 => ?_) <;> simp at d1
    ·have hpk := hps k;have hex : t.s.eyes.getD k ⟨0, 0, 0, 0⟩ = t.s.eyes[k] := by simp [d1]
     have hgx : t.x.gaps.getD k gap0 = t.x.gaps[k]'(by omega) := by simp [hg, d1]
     rw [hex, hgx] at hpk;have q := yNw (t.x.gaps[k]'(by omega)) p.gap
     generalize hxe : t.s.eyes[k] = ey at *;generalize hxg : t.x.gaps[k]'(by omega) = gp at *
     have hev : eyeV ey = .agg [.int .i64 ey.phase, .int .i64 ey.on, .int .i64 ey.off, .int .i64 ey.turns] := rfl;have hgv : gapV gp = .agg [.bool gp.up, .int .i64 gp.held, .int .i64 gp.opn, .int .i64 gp.came, .int .u64 gp.last] := rfl;rw [hgv] at q;have hkg : k < t.x.gaps.length := by omega
     simp (disch := omega) [go_sem, d1, hxe, hxg, hev, hgv, hg];refine zAa q [] (by simp [go_sem]) (.inl rfl) (by simp [go_sem]) (fun _ => ?_)
     simp (disch := omega) [go_sem];refine ⟨.inl (by kernel_rfl), ?_⟩
     refine zAb (k + 1) (by omega) (by omega) (Le.mk [(0, some 0), (512, some 512)] [0, 512] ⟨rfl, rfl, rfl⟩ ?_ ?_ ?_) <;> simp [go_sem, tckO, tckD, tckL, h2F, hpk, hpv]
    ·have hkk : k = t.s.eyes.length := by omega
     subst hkk;simp (disch := omega) [go_sem];refine zAc (fun h5 => ?_) (fun h5 => ?_)
     ·rw [h5, if_pos rfl] at hgi;simp (disch := omega) [go_sem, hsh];refine zAb (i + 1) (by omega) (by omega) (Le.mk [(0, some 0)] [0] ⟨rfl, rfl, rfl⟩ ?_ ?_ ?_) <;> simp [go_sem, tckO, tckD, tckL, h1F, hgi, zHh]
     ·rw [h5, if_neg (by decide)] at hgi
      simp (disch := omega) [go_sem];refine zAb (i + 1) (by omega) (by omega) (Le.mk [(0, some 0)] [0] ⟨rfl, rfl, rfl⟩ ?_ ?_ ?_) <;> simp [go_sem, tckO, tckD, tckL, h1F, hgi]
  ·have hkk : i = t.s.phases.length := by omega
   subst hkk;simp (disch := omega) [go_sem];rw [hN];refine Le.mk [(0, some 0)] [0] ⟨rfl, rfl, rfl⟩ ?_ ?_ ?_ <;> simp [go_sem]
end
section
attribute [local go_sem] zAq zAi
noncomputable def askQ (t : TckN) : Int × Int := seqP t.s t.x.sph.toNat t.x.ssi t.x.now t.x.calls (yBs t)
noncomputable def xAd (t : TckN) (k : KepN) : Pln := if t.x.rung.mode = 2 then zOx t.s (k.plans.getD 0 ⟨0, 0, []⟩) else t.x.told
noncomputable def yDb (t : TckN) (k : KepN) : Int := (zJj t.s (xAd t k) t.x.tick).1
noncomputable def askT (t : TckN) (k : KepN) : TckN :=
 if t.x.rung.mode = 0 then { t with asks := zFx t.s }
 else if t.x.rung.mode = 1 then { t with x := { t.x with sph := (askQ t).1, ssi := (askQ t).2 }, asks := zLf t.s (askQ t).1 }
 else { t with x := { t.x with sph := yDb t k, ssi := 0 }, asks := zLf t.s (yDb t k) }
structure AskOk (t : TckN) (k : KepN) : Prop where
 site : zAk t.s
 sph : 0 ≤ t.x.sph ∧ t.x.sph < t.s.phases.length
 ssi : 0 ≤ t.x.ssi ∧ t.x.ssi ≤ 1048576
 groups : t.x.now.groups.length = t.s.groups.length
 calls : t.x.calls < 4294967296
 gaps : t.x.gaps.length = t.s.eyes.length
 plans : t.x.rung.mode = 2 → k.plans ≠ []
theorem xFb (t : TckN) : yBs t < 4294967296 := yUk _ _
set_option maxHeartbeats 4000000 in
theorem xKy (t : TckN) (k : KepN) (h : AskOk t k) : FnR Tryz.prog 44 [tckO t] [.ptr 0 1 0 0, kepV k] [tckO (askT t k)] (.tup []) tabG := by
 obtain ⟨hOk, hph, hsi, hgr, hca, hga, hpl⟩ := h
 have hsh := hOk.shaped.1
 have q1 := zWo t hsh.1 (by omega)
 have q2 := yUi t hOk.shaped.2.2.2.1.2 hOk.shaped.2.2.2.2.1 hga
 obtain ⟨sp, hsp⟩ := Int.eq_ofNat_of_zero_le hph.1
 have q3 := yMb t.s sp t.x.ssi t.x.now t.x.calls (yBs t) hOk (by omega) hsi hgr hca (xFb t)
 have hQ : askQ t = seqP t.s sp t.x.ssi t.x.now t.x.calls (yBs t) := by unfold askQ; rw [hsp]; rfl
 rw [← hQ, ← hsp] at q3
 have hT : askT t k = if t.x.rung.mode = 0 then { t with asks := zFx t.s }
  else if t.x.rung.mode = 1 then { t with x := { t.x with sph := (askQ t).1, ssi := (askQ t).2 }, asks := zLf t.s (askQ t).1 }
  else { t with x := { t.x with sph := yDb t k, ssi := 0 }, asks := zLf t.s (yDb t k) } := rfl
 have q4 := fun p => yFh t.s p t.x.tick hOk
 have q5 := fun p => zVk t.s p
 have q6 := fun p => zPu t.s p hOk
 have hPh : yDb t k = (zJj t.s (xAd t k) t.x.tick).1 := rfl
 have hPl : xAd t k = if t.x.rung.mode = 2 then zOx t.s (k.plans.getD 0 ⟨0, 0, []⟩) else t.x.told := rfl
 have hsv := zAs t.s
 have hkp : zAz (k.plans.map plnV) := zAr _
 rw [hsv] at q3 q4 q5 q6
 unfold seqV safV at q3
 generalize askT t k = T at *
 unfold kepV
 by_cases m0 : t.x.rung.mode = 0
 ·rw [if_pos m0] at hT;subst hT;have hpF := zDd (zFx t.s);refine zAw mixed Tryz.func44 rfl rfl (by simp [Tryz.ntmps44]) (by simp) fun hwf E => ?_
  clear hwf;simp (disch := omega) [Tryz.ntmps44, go_sem, tckO, tckD, tckL];refine zAc (fun b1 => ?_) (fun b1 => ?_) <;> simp at b1
  ·simp (disch := omega) [go_sem];refine zBr q1 [(0, some 0)] [0] ?_ ?_ ?_ ?_ (fun _ => ?_) (by simp [tabG, go_sem])
   ·simp [go_sem]
   iterate 3 (· simp [go_sem, tckO, tckD, tckL])
   simp (disch := omega) [go_sem, tckO, tckD, tckL];refine Le.mk [(0, some 0)] [0] ⟨rfl, rfl, rfl⟩ ?_ ?_ ?_ <;> simp [go_sem]
  ·exact absurd m0 b1
 ·rw [if_neg m0] at hT;by_cases m1 : t.x.rung.mode = 1
  ·rw [if_pos m1] at hT;subst hT;have hpA := zDd (zLf t.s (askQ t).1);refine zAw mixed Tryz.func44 rfl rfl (by simp [Tryz.ntmps44]) (by simp) fun hwf E => ?_
   clear hwf;simp (disch := omega) [Tryz.ntmps44, go_sem, tckO, tckD, tckL];refine zAc (fun b1 => ?_) (fun b1 => ?_) <;> simp at b1
   ·exact absurd b1 m0
   ·simp (disch := omega) [go_sem];refine zAc (fun b2 => ?_) (fun b2 => ?_) <;> simp at b2
    ·simp (disch := omega) [go_sem];refine zBr q2 [(0, some 0)] [0] ?_ ?_ ?_ ?_ (fun _ => ?_) (by simp [tabG, go_sem])
     ·simp [go_sem]
     iterate 3 (· simp [go_sem, tckO, tckD, tckL])
     simp (disch := omega) [go_sem, tckO, tckD, tckL];refine zAa q3 [] (by simp [go_sem]) (.inl rfl) (by simp [go_sem]) (fun _ => ?_) (by simp [tabG, go_sem])
     simp (disch := omega) [go_sem];refine ⟨.inl (by kernel_rfl), ?_⟩
     refine Le.mk [(0, some 0)] [0] ⟨rfl, rfl, rfl⟩ ?_ ?_ ?_ <;> simp [go_sem]
    ·exact absurd m1 b2
  ·rw [if_neg m1] at hT;subst hT;have q5 := q5 (yDb t k);have hpA := zDd (zLf t.s (yDb t k));have q4 := q4 (xAd t k);rw [← hPh] at q4;have hcv : ∀ p : Pln, plnV p = .agg [.int .i64 p.cycle, .int .i64 p.offset, .sl 1 (ints p.splits)] := fun _ => rfl
   rw [hcv] at q4;generalize yDb t k = ph at *;by_cases m2 : t.x.rung.mode = 2
   ·rw [if_pos m2] at hPl;obtain ⟨kg, km, kps⟩ := k;have hne := hpl m2;simp only at hne hPl hkp
    match kps, hne, hPl, hkp with
    | a :: r, hne, hPl, hkp =>
     rw [List.getD_cons_zero] at hPl;have q6 := q6 a;rw [hcv a, hcv (zOx t.s a)] at q6;rw [hPl] at q4;have hav : plnV a = .agg [.int .i64 a.cycle, .int .i64 a.offset, .sl 1 (ints a.splits)] := rfl;have hrp := zAr r;generalize zOx t.s a = Q at *;refine zAw mixed Tryz.func44 rfl rfl (by simp [Tryz.ntmps44]) (by simp) fun hwf E => ?_
     clear hwf;simp (disch := omega) [Tryz.ntmps44, go_sem, tckO, tckD, tckL, hav];refine zAc (fun b1 => ?_) (fun b1 => ?_) <;> simp at b1
     ·exact absurd b1 m0
     ·simp (disch := omega) [go_sem];refine zAc (fun b2 => ?_) (fun b2 => ?_) <;> simp at b2
      ·exact absurd b2 m1
      ·simp (disch := omega) [go_sem];refine zAc (fun b3 => ?_) (fun b3 => ?_) <;> simp at b3
       ·simp (disch := omega) [go_sem];refine zAa q6 [] (by simp [go_sem]) (.inl rfl) (by simp [go_sem]) (fun _ => ?_) (by simp [tabG, go_sem])
        simp (disch := omega) [go_sem];refine ⟨.inl (by kernel_rfl), ?_⟩
        refine zAa q4 [] (by simp [go_sem]) (.inl rfl) (by simp [go_sem]) (fun _ => ?_) (by simp [tabG, go_sem])
        simp (disch := omega) [go_sem];refine ⟨.inl (by kernel_rfl), ?_⟩
        refine zAa q5 [] (by simp [go_sem]) (.inl rfl) (by simp [go_sem]) (fun _ => ?_) (by simp [tabG, go_sem])
        simp (disch := omega) [go_sem];refine Le.mk [(0, some 0)] [0] ⟨rfl, rfl, rfl⟩ ?_ ?_ ?_ <;> simp [go_sem]
       ·exact absurd m2 b3
   ·rw [if_neg m2] at hPl;rw [hPl] at q4;refine zAw mixed Tryz.func44 rfl rfl (by simp [Tryz.ntmps44]) (by simp) fun hwf E => ?_
    clear hwf;simp (disch := omega) [Tryz.ntmps44, go_sem, tckO, tckD, tckL];refine zAc (fun b1 => ?_) (fun b1 => ?_) <;> simp at b1
    ·exact absurd b1 m0
    ·simp (disch := omega) [go_sem];refine zAc (fun b2 => ?_) (fun b2 => ?_) <;> simp at b2
     ·exact absurd b2 m1
     ·simp (disch := omega) [go_sem];refine zAc (fun b3 => ?_) (fun b3 => ?_) <;> simp at b3
      ·exact absurd b3 m2
      ·simp (disch := omega) [go_sem];refine zAa q4 [] (by simp [go_sem]) (.inl rfl) (by simp [go_sem]) (fun _ => ?_) (by simp [tabG, go_sem])
       simp (disch := omega) [go_sem];refine ⟨.inl (by kernel_rfl), ?_⟩
       refine zAa q5 [] (by simp [go_sem]) (.inl rfl) (by simp [go_sem]) (fun _ => ?_) (by simp [tabG, go_sem])
       simp (disch := omega) [go_sem];refine Le.mk [(0, some 0)] [0] ⟨rfl, rfl, rfl⟩ ?_ ?_ ?_ <;> simp [go_sem]
end
section
attribute [local go_sem] zAq zAi
def puS (p : Pul) (x : Bool) : Pul := if zId p 1 2 = 0 then zMk 2 p x else (false, false, 0)
def seP (t : TckN) : Nat → List Pul
 | 0 => t.x.puls
 | k + 1 => (seP t k).set k (puS ((seP t k).getD k pul0) (t.i.eyes.testBit k))
noncomputable def seG (t : TckN) : Nat → List GapN
 | 0 => t.x.gaps
 | k + 1 => (seG t k).set k (zLq ((seG t k).getD k gap0) ((seP t (k + 1)).getD k pul0).1)
def seU (t : TckN) : Nat → Nat
 | 0 => 0
 | k + 1 => if ((seP t (k + 1)).getD k pul0).1 = true then zHh (seU t k) k else seU t k
theorem yEo (t : TckN) : ∀ k, (seP t k).length = t.x.puls.length
 | 0 => rfl
 | k + 1 => by simp only [seP, List.length_set]; exact yEo t k
theorem yEp (t : TckN) : ∀ k, (seG t k).length = t.x.gaps.length
 | 0 => rfl
 | k + 1 => by simp only [seG, List.length_set]; exact yEp t k
theorem xLz (t : TckN) : ∀ k, seU t k < 4294967296
 | 0 => by simp [seU]
 | k + 1 => by
  have := xLz t k;simp only [seU];split
  ·exact zJd this _
  ·exact this
def seB (t : TckN) (n : Nat) : AM.Obj := ⟨.box, 86, 51, [.agg (tckL { t with was := t.x.puls } (.obj 512 n) (.obj 528 n) (.sl 1 (ints t.x.greens)) (.sl 1 (ints t.x.busy)) (.sl 1 (ints t.x.came)))]⟩
noncomputable def seF (t : TckN) (k : Nat) : St := ⟨[(42, .int .i64 k), (41, .int .i64 t.x.puls.length), (2, .int .u32 (seU t k)), (0, .ptr 0 1 0 0)], [(0, seB t t.x.puls.length), (512, ⟨.arr, 163, 3, (seP t k).map pulV⟩), (528, ⟨.arr, 167, 5, (seG t k).map gapV⟩)], 2048, [], 182, 1, tabG⟩
noncomputable def seGr (t : TckN) : Int := if zUu t.s t.x.now t.x.sph = true then t.x.sph else -1
noncomputable def seE (t : TckN) : List zCv := eyL t.s t.x.eyes (seU t t.x.puls.length)
noncomputable def seeT (t : TckN) : TckN := { t with was := t.x.puls, x := { t.x with puls := seP t t.x.puls.length, gaps := seG t t.x.puls.length, eyes := seE t, calls := (zMg t.s t.x.calls (seE t) (seGr t)).1 } }
set_option maxHeartbeats 4000000 in
theorem xCn (t : TckN) (hOk : zAk t.s) (hp : t.x.puls.length = t.s.eyes.length) (hg : t.x.gaps.length = t.s.eyes.length) (hc : t.x.calls < 4294967296) (he : t.i.eyes < 4294967296) : FnR Tryz.prog 41 [tckO t] [.ptr 0 1 0 0] [tckO (seeT t)] (.tup []) tabG := by
 have h24 : t.s.eyes.length ≤ 24 := hOk.shaped.2.2.2.2.1
 have q1 := yOj t.x.puls (by omega)
 have q2 := yOl t.x.gaps (by omega)
 have hF : ∀ k, seF t k = ⟨[(42, .int .i64 k), (41, .int .i64 t.x.puls.length), (2, .int .u32 (seU t k)), (0, .ptr 0 1 0 0)], [(0, seB t t.x.puls.length), (512, ⟨.arr, 163, 3, (seP t k).map pulV⟩), (528, ⟨.arr, 167, 5, (seG t k).map gapV⟩)], 2048, [], 182, 1, tabG⟩ := fun _ => rfl
 have hgp : t.x.gaps.length = t.x.puls.length := by omega
 refine zAw mixed Tryz.func41 rfl rfl (by simp [Tryz.ntmps41]) (by simp) fun hwf E => ?_
 clear hwf
 simp (disch := omega) [Tryz.ntmps41, go_sem, tckO, tckD, tckL]
 refine zAf q1 [] [] [] [] ?_ ?_ ?_ (.inl ⟨rfl, .inl rfl⟩) (fun _ => ?_) (by simp [tabG, go_sem])
 iterate 3 (· simp [go_sem])
 simp (disch := omega) [go_sem]
 refine zAf q1 [] [] [] [] ?_ ?_ ?_ (.inl ⟨rfl, .inl rfl⟩) (fun _ => ?_) (by simp [tabG, go_sem])
 iterate 3 (· simp [go_sem])
 simp (disch := omega) [go_sem]
 refine zAf q2 [] [] [] [] ?_ ?_ ?_ (.inl ⟨rfl, .inl rfl⟩) (fun _ => ?_) (by simp [tabG, go_sem])
 iterate 3 (· simp [go_sem])
 simp (disch := omega) [go_sem]
 refine ⟨.inl (by kernel_rfl), ?_⟩
 refine zAe mixed (seF t) (fun k => k ≤ t.x.puls.length) (fun k => t.x.puls.length - k) 0 (by omega) ?_ ?_
 ·refine Le.mk [(0, some 0), (512, some 288), (528, some 384)] [0, 288, 384] ⟨rfl, rfl, rfl⟩ ?_ ?_ ?_ <;> simp [go_sem, tckL, seF, seB, seP, seG, seU, hgp]
 ·intro k hk;have hpl := yEo t k;have hgl := yEp t k;have hul := xLz t k;rw [hF];simp (disch := omega) [go_sem, tckL, seB];refine zAc (fun c1 => ?_) (fun c1 => ?_) <;> simp at c1
  ·have e1 : seP t (k + 1) = (seP t k).set k (puS ((seP t k).getD k pul0) (t.i.eyes.testBit k)) := rfl;have e2 : seG t (k + 1) = (seG t k).set k (zLq ((seG t k).getD k gap0) ((seP t (k + 1)).getD k pul0).1) := rfl;have e3 : seU t (k + 1) = if ((seP t (k + 1)).getD k pul0).1 = true then zHh (seU t k) k else seU t k := rfl
   obtain ⟨m, hb2, hr⟩ := zLt (b := k) he;have hmb : ((m : Int) == 1) = t.i.eyes.testBit k := by
    rw [Bool.eq_iff_iff, beq_iff_eq, ← hr]; omega
   have hsh := zPl (show k < 32 by omega)
   have hbn := zGc (k : Int);have hkp : k < (seP t k).length := by omega
   have hkg : k < (seG t k).length := by omega
   obtain ⟨p, hxp⟩ : ∃ p, (seP t k)[k]'hkp = p := ⟨_, rfl⟩;obtain ⟨g, hxg⟩ : ∃ g, (seG t k)[k]'hkg = g := ⟨_, rfl⟩;have x1 : (seP t k).getD k pul0 = p := by rw [← hxp]; simp [hkp]
   have x2 : (seG t k).getD k gap0 = g := by rw [← hxg]; simp [hkg]
   rw [x1] at e1;have x3 : ((seP t (k + 1)).getD k pul0) = puS p (t.i.eyes.testBit k) := by rw [e1]; simp [hkp]
   rw [x2, x3] at e2;rw [x3] at e3;have hF1 := hF (k + 1);generalize seP t (k + 1) = P1 at *;generalize seG t (k + 1) = G1 at *;generalize seU t (k + 1) = U1 at *;generalize t.i.eyes.testBit k = bit at *;have q3 : FnD Tryz.prog 91 [pulV p, .bool bit, .int .i64 2] (.tup [pulV (puS p bit), .int .i64 (zId p 1 2)]) := yFk p bit 2;generalize puS p bit = p' at *;have q4 := yBu g p'.1;have m1 : ((seP t k).map pulV).set k (pulV p') = P1.map pulV := by rw [e1, List.map_set]
   have m2 : ((seG t k).map gapV).set k (gapV (zLq g p'.1)) = G1.map gapV := by rw [e2, List.map_set]
   generalize zLq g p'.1 = g' at *;have hpv : ∀ p : Pul, pulV p = .agg [.bool p.1, .bool p.2.1, .int .i64 p.2.2] := fun _ => rfl
   have hgv : ∀ g : GapN, gapV g = .agg [.bool g.up, .int .i64 g.held, .int .i64 g.opn, .int .i64 g.came, .int .u64 g.last] := fun _ => rfl
   have hvp := hpv p;have hvg := hgv g;rw [hvp, hpv p'] at q3;rw [hvg, hgv g'] at q4;rw [hpv p'] at m1;rw [hgv g'] at m2;have hP1 : (P1.map pulV).length = t.x.puls.length := by rw [← m1]; simp [hpl]
   have hn1 : nth (P1.map pulV) k = .agg [.bool p'.1, .bool p'.2.1, .int .i64 p'.2.2] := by rw [← m1, zQg (by simpa using hkp)]; simp
   have hck : k < t.x.gaps.length := by omega
   have hP2 : P1.length = t.x.puls.length := by simpa using hP1
   have hx1 : P1[k]'(by omega) = p' := by
    have h := zBs (f := pulV) (show k < P1.length by omega)
    simp only [e1, List.getElem_set_self]
   have hvp1 := hpv p';simp (disch := omega) [go_sem, hvp, hpl, c1, hxp, zGe, hb2, hmb];refine zAa q3 [] (by simp [go_sem]) (.inl rfl) (by simp [go_sem]) (fun _ => ?_)
   simp (disch := omega) [go_sem, hvp, hvg, hpl, hgl, c1, hxp, hxg, m1, hP2, hx1, hvp1, hgp];refine ⟨.inl (by kernel_rfl), ?_⟩
   refine zAa q4 [] (by simp [go_sem]) (.inl rfl) (by simp [go_sem]) (fun _ => ?_)
   simp (disch := omega) [go_sem, hvg, hgl, c1, hxg, m2, hP2, hx1, hvp1, hgp];refine ⟨.inl (by kernel_rfl), ?_⟩
   have hpP := zKl P1;have hpG := zKx G1;refine zAc (fun h5 => ?_) (fun h5 => ?_)
   ·rw [h5, if_pos rfl] at e3;simp (disch := omega) [go_sem, hsh];refine zAb (k + 1) (by omega) (by omega) (Le.mk [(0, some 0), (512, some 512), (528, some 528)] [0, 512, 528] ⟨rfl, rfl, rfl⟩ ?_ ?_ ?_) <;> simp [go_sem, tckL, hF1, seB, e3, zHh, hpP, hpG]
   ·rw [h5, if_neg (by decide)] at e3
    simp (disch := omega) [go_sem];refine zAb (k + 1) (by omega) (by omega) (Le.mk [(0, some 0), (512, some 512), (528, some 528)] [0, 512, 528] ⟨rfl, rfl, rfl⟩ ?_ ?_ ?_) <;> simp [go_sem, tckL, hF1, seB, e3, hpP, hpG]
  ·have hkk : k = t.x.puls.length := by omega
   subst hkk;have q5 := yYs t.s t.x.eyes (seU t t.x.puls.length) hul;have q6 := zPh t.s t.x.now t.x.sph;have q7 := yOh t.s t.x.calls (seE t) (seGr t) hc;have hE : eyL t.s t.x.eyes (seU t t.x.puls.length) = seE t := rfl;rw [hE] at q5;have hGr : seGr t = if zUu t.s t.x.now t.x.sph = true then t.x.sph else -1 := rfl
   have hT : seeT t = { t with was := t.x.puls, x := { t.x with puls := seP t t.x.puls.length, gaps := seG t t.x.puls.length, eyes := seE t, calls := (zMg t.s t.x.calls (seE t) (seGr t)).1 } } := rfl
   have hsv := zAs t.s;rw [hsv] at q5 q6 q7;unfold safV at q6;have hpE := zWb (seE t);have hpP := zKl (seP t t.x.puls.length);have hpG := zKx (seG t t.x.puls.length);generalize seeT t = T at *;subst hT;generalize seE t = EE at *;generalize seP t t.x.puls.length = PP at *;generalize seG t t.x.puls.length = GG at *;simp (disch := omega) [go_sem];refine zAa q5 [] (by simp [go_sem]) (.inl rfl) (by simp [go_sem]) (fun _ => ?_) (by simp [tabG, go_sem])
   simp (disch := omega) [go_sem];refine ⟨.inl (by kernel_rfl), ?_⟩
   refine zAa q6 [] (by simp [go_sem]) (.inl rfl) (by simp [go_sem]) (fun _ => ?_) (by simp [tabG, go_sem])
   simp (disch := omega) [go_sem];refine ⟨.inl (by kernel_rfl), ?_⟩
   cases hfb : zUu t.s t.x.now t.x.sph with
   | true =>
    rw [hfb, if_pos rfl] at hGr;rw [hGr] at q7 ⊢;simp (disch := omega) [go_sem];refine zAa q7 [] (by simp [go_sem]) (.inl rfl) (by simp [go_sem]) (fun _ => ?_) (by simp [tabG, go_sem])
    simp (disch := omega) [go_sem];refine ⟨.inl (by kernel_rfl), ?_⟩
    refine Le.mk [(0, some 0)] [0] ⟨rfl, rfl, rfl⟩ ?_ ?_ ?_ <;> simp [go_sem, hpP, hpG, hpl, hgl, hgp]
   | false =>
    rw [hfb, if_neg (by decide)] at hGr
    rw [hGr] at q7 ⊢;simp (disch := omega) [go_sem];refine zAa q7 [] (by simp [go_sem]) (.inl rfl) (by simp [go_sem]) (fun _ => ?_) (by simp [tabG, go_sem])
    simp (disch := omega) [go_sem];refine ⟨.inl (by kernel_rfl), ?_⟩
    refine Le.mk [(0, some 0)] [0] ⟨rfl, rfl, rfl⟩ ?_ ?_ ?_ <;> simp [go_sem, hpP, hpG, hpl, hgl, hgp]
end
section
attribute [local go_sem] zAq zAi
def inpV (i : InpN) : V := .agg [.sl 1 (bts i.bytes), .int .u32 i.eyes, .sl 1 (lts i.back), .bool i.lost, .int .i64 i.whole, .int .i64 i.torn, .bool i.rot]
theorem zIy (l : List InpN) : zAz (l.map inpV) := zBd _ (fun i => by simp [inpV, go_sem]) l
def zRe (l : List InpN) : Nat → Nat
 | 0 => l.length
 | k + 1 => zRe l k + ((l.getD k ⟨[], 0, [], false, 0, 0, false⟩).bytes.length + (l.getD k ⟨[], 0, [], false, 0, 0, false⟩).back.length)
def inp0 : InpN := ⟨[], 0, [], false, 0, 0, false⟩
theorem yIv {l : List InpN} (h : ∀ i ∈ l, i.bytes.length ≤ 140737488355328 ∧ i.back.length ≤ 140737488355328) : ∀ k, k ≤ l.length → zRe l k ≤ l.length + k * 281474976710656
 | 0, _ => by simp [zRe]
 | k + 1, hk => by
  have ih := yIv h k (by omega)
  have h1 := h _ (List.getElem_mem (show k < l.length by omega))
  have h2 : l.getD k ⟨[], 0, [], false, 0, 0, false⟩ = l[k]'(by omega) := by simp [show k < l.length by omega]
  simp only [zRe, h2];omega
set_option maxHeartbeats 1000000 in
theorem yFs (l : List InpN) (h2 : l.length ≤ 200) (h : ∀ i ∈ l, i.bytes.length ≤ 140737488355328 ∧ i.back.length ≤ 140737488355328) : FnD Tryz.prog 22 [.sl 7 (l.map inpV)] (.int .i64 (zRe l l.length : Nat)) := by
 have hp := zIy l
 have hle := yIv h
 refine zAd mixed Tryz.func22 rfl rfl (by simp [Tryz.ntmps22]) fun hwf E => ?_
 clear hwf
 simp (disch := omega) [Tryz.ntmps22, go_sem]
 refine zAe mixed (fun k : Nat => ⟨[(4, .int .i64 k), (3, .int .i64 (zRe l k : Nat)), (0, .sl 7 (l.map inpV))], [], 2048, [], 29, 0, []⟩) (fun k => k ≤ l.length) (fun k => l.length - k) 0 ?_ ?_ ?_
 ·omega
 ·refine Le.mk [] [] ⟨rfl, rfl, rfl⟩ ?_ ?_ ?_ <;> simp [go_sem, zRe]
 ·intro k hk;simp (disch := omega) [go_sem];refine zAc (fun c1 => ?_) (fun c1 => ?_) <;> simp at c1
  ·have hiv : inpV l[k] = .agg [.sl 1 (bts l[k].bytes), .int .u32 l[k].eyes, .sl 1 (lts l[k].back), .bool l[k].lost, .int .i64 l[k].whole, .int .i64 l[k].torn, .bool l[k].rot] := rfl;have hb := h _ (List.getElem_mem c1);have hm := hle k hk;have hm1 := hle (k + 1) (by omega)
   have hx : l.getD k ⟨[], 0, [], false, 0, 0, false⟩ = l[k] := by simp [c1]
   have hs : zRe l (k + 1) = zRe l k + (l[k].bytes.length + l[k].back.length) := by simp only [zRe, hx]
   simp (disch := omega) [go_sem, c1, hiv, zKq];refine ⟨.inl (by kernel_rfl), ?_⟩
   refine zAb (k + 1) (by omega) (by omega) (Le.mk [] [] ⟨rfl, rfl, rfl⟩ ?_ ?_ ?_) <;> simp [go_sem, hs]
  ·have hkk : k = l.length := by omega
   subst hkk;simp (disch := omega) [go_sem]
end
section
attribute [local go_sem] zAq zAi
def coUp (t : TckN) (i k : Nat) : Bool := decide ((t.s.eyes.getD k ⟨0, 0, 0, 0⟩).phase = (i : Int)) && (t.x.puls.getD k pul0).1
def coB (t : TckN) (i : Nat) : Nat → Bool
 | 0 => false
 | k + 1 => coB t i k || coUp t i k
def coC (t : TckN) (i : Nat) (c : List Int) : Nat → List Int
 | 0 => c
 | k + 1 => if coUp t i k = true ∧ (t.was.getD k pul0).1 = false then (coC t i c k).set i (zGa ((coC t i c k).getD i 0) 1048576) else coC t i c k
structure CntN where
 greens : List Int
 busy : List Int
 came : List Int
noncomputable def coK (t : TckN) : Nat → CntN
 | 0 => ⟨t.x.greens, t.x.busy, t.x.came⟩
 | i + 1 => if zUu t.s t.x.now i = true then
   ⟨(coK t i).greens.set i (zGa ((coK t i).greens.getD i 0) 1048576), if coB t i t.s.eyes.length = true then (coK t i).busy.set i (zGa ((coK t i).busy.getD i 0) 1048576) else (coK t i).busy, coC t i (coK t i).came t.s.eyes.length⟩
  else coK t i
def Val (l : List Int) : Prop := ∀ x ∈ l, 0 ≤ x ∧ x ≤ 1048576
theorem Val.set {l : List Int} (h : Val l) (i : Nat) : Val (l.set i (zGa (l.getD i 0) 1048576)) := by
 intro x hx
 rcases List.mem_or_eq_of_mem_set hx with h1 | h1
 ·exact h x h1
 ·subst h1;have : 0 ≤ l.getD i 0 ∧ l.getD i 0 ≤ 1048576 := by
   by_cases hi : i < l.length
   ·have e : l.getD i 0 = l[i] := by simp [hi]
    rw [e]; exact h _ (List.getElem_mem hi)
   ·have e : l.getD i 0 = 0 := by simp [List.getD, List.getElem?_eq_none (by omega : l.length ≤ i)]
    rw [e]; decide
  unfold zGa; omega
theorem yZf (t : TckN) (i : Nat) {c : List Int} (h : Val c) : ∀ k, Val (coC t i c k) ∧ (coC t i c k).length = c.length
 | 0 => ⟨h, rfl⟩
 | k + 1 => by
  obtain ⟨h1, h2⟩ := yZf t i h k;simp only [coC];split
  ·exact ⟨h1.set i, by rw [List.length_set]; exact h2⟩
  ·exact ⟨h1, h2⟩
theorem yKe (t : TckN) (h : Val t.x.greens ∧ Val t.x.busy ∧ Val t.x.came) : ∀ i, (Val (coK t i).greens ∧ Val (coK t i).busy ∧ Val (coK t i).came) ∧ (coK t i).greens.length = t.x.greens.length ∧ (coK t i).busy.length = t.x.busy.length ∧ (coK t i).came.length = t.x.came.length
 | 0 => ⟨h, rfl, rfl, rfl⟩
 | i + 1 => by
  obtain ⟨⟨v1, v2, v3⟩, e1, e2, e3⟩ := yKe t h i;simp only [coK];split
  ·obtain ⟨c1, c2⟩ := yZf t i v3 t.s.eyes.length;refine ⟨⟨v1.set i, ?_, c1⟩, by rw [List.length_set]; exact e1, ?_, by rw [c2]; exact e3⟩
   ·simp only; split
    ·exact v2.set i
    ·exact v2
   ·simp only; split
    ·rw [List.length_set]; exact e2
    ·exact e2
  ·exact ⟨⟨v1, v2, v3⟩, e1, e2, e3⟩
noncomputable def zCc (t : TckN) : TckN := { t with x := { t.x with greens := (coK t t.s.phases.length).greens, busy := (coK t t.s.phases.length).busy, came := (coK t t.s.phases.length).came } }
def cntO (t : TckN) (g b c n : Nat) : AM.Obj := ⟨.box, 86, 51, [.agg (tckL t (.sl 3 (t.x.puls.map pulV)) (.sl 5 (t.x.gaps.map gapV)) (.obj g n) (.obj b n) (.obj c n))]⟩
noncomputable def co1F (t : TckN) (i : Nat) : St := ⟨[(44, .int .i64 i), (43, .int .i64 t.s.phases.length), (0, .ptr 0 1 0 0)], [(0, cntO t 512 528 544 t.s.phases.length), (512, ⟨.arr, 3, 1, ints (coK t i).greens⟩), (528, ⟨.arr, 3, 1, ints (coK t i).busy⟩), (544, ⟨.arr, 3, 1, ints (coK t i).came⟩)], 2048, [], 149, 1, tabG⟩
structure CntOk (t : TckN) : Prop where
 site : zAk t.s
 puls : t.x.puls.length = t.s.eyes.length
 was : t.was.length = t.s.eyes.length
 lens : t.x.greens.length = t.s.phases.length ∧ t.x.busy.length = t.s.phases.length ∧ t.x.came.length = t.s.phases.length
 vals : (∀ x ∈ t.x.greens, 0 ≤ x ∧ x ≤ 1048576) ∧ (∀ x ∈ t.x.busy, 0 ≤ x ∧ x ≤ 1048576) ∧ (∀ x ∈ t.x.came, 0 ≤ x ∧ x ≤ 1048576)
noncomputable def co2F (t : TckN) (i k : Nat) : St := ⟨[(69, .int .i64 k), (68, .int .i64 t.s.eyes.length), (67, .sl 4 (t.s.eyes.map eyeV)), (5, .bool (coB t i k)), (2, .int .i64 i), (44, .int .i64 i), (43, .int .i64 t.s.phases.length), (0, .ptr 0 1 0 0)], [(0, cntO t 512 528 544 t.s.phases.length), (512, ⟨.arr, 3, 1, ints (coK t i).greens⟩), (528, ⟨.arr, 3, 1, ints (coK t i).busy⟩), (544, ⟨.arr, 3, 1, ints (coC t i (coK t i).came k)⟩)], 8192, [], 149, 1, tabG⟩
set_option maxHeartbeats 4000000 in
theorem yEa (t : TckN) (h : CntOk t) : FnR Tryz.prog 47 [tckO t] [.ptr 0 1 0 0]
  [cntO (zCc t) 1 2 3 t.s.phases.length, ⟨.arr, 3, 1, ints (zCc t).x.greens⟩, ⟨.arr, 3, 1, ints (zCc t).x.busy⟩, ⟨.arr, 3, 1, ints (zCc t).x.came⟩] (.tup []) tabG := by
 have h8 : t.s.phases.length ≤ 8 := h.site.shaped.2.2.2.1.2
 have h24 : t.s.eyes.length ≤ 24 := h.site.shaped.2.2.2.2.1
 have l1 := h.lens.1
 have l2 := h.lens.2.1
 have l3 := h.lens.2.2
 have q1 := fun l hl => yOk l hl
 refine zAw mixed Tryz.func47 rfl rfl (by simp [Tryz.ntmps47]) (by simp) fun hwf E => ?_
 clear hwf
 simp (disch := omega) [Tryz.ntmps47, go_sem, tckO, tckD, tckL]
 refine zAf ((q1 t.x.greens (by omega))) [] [] [] [] ?_ ?_ ?_ (.inl ⟨rfl, .inl rfl⟩) (fun _ => ?_) (by simp [tabG, go_sem])
 iterate 3 (· simp [go_sem])
 simp (disch := omega) [go_sem]
 refine zAf ((q1 t.x.busy (by omega))) [] [] [] [] ?_ ?_ ?_ (.inl ⟨rfl, .inl rfl⟩) (fun _ => ?_) (by simp [tabG, go_sem])
 iterate 3 (· simp [go_sem])
 simp (disch := omega) [go_sem]
 refine zAf ((q1 t.x.came (by omega))) [] [] [] [] ?_ ?_ ?_ (.inl ⟨rfl, .inl rfl⟩) (fun _ => ?_) (by simp [tabG, go_sem])
 iterate 3 (· simp [go_sem])
 simp (disch := omega) [go_sem]
 refine ⟨.inl (by kernel_rfl), ?_⟩
 refine zAe mixed (co1F t) (fun k => k ≤ t.s.phases.length) (fun k => t.s.phases.length - k) 0 (by omega) ?_ ?_
 ·refine Le.mk [(0, some 0), (512, some 144), (528, some 240), (544, some 336)] [0, 144, 240, 336] ⟨rfl, rfl, rfl⟩ ?_ ?_ ?_ <;> simp [go_sem, tckL, co1F, cntO, coK, l1, l2, l3]
 ·intro i hi;have hF : ∀ i, co1F t i = ⟨[(44, .int .i64 i), (43, .int .i64 t.s.phases.length), (0, .ptr 0 1 0 0)], [(0, cntO t 512 528 544 t.s.phases.length), (512, ⟨.arr, 3, 1, ints (coK t i).greens⟩), (528, ⟨.arr, 3, 1, ints (coK t i).busy⟩), (544, ⟨.arr, 3, 1, ints (coK t i).came⟩)], 2048, [], 149, 1, tabG⟩ := fun _ => rfl
  rw [hF];simp (disch := omega) [go_sem, tckL, cntO];refine zAc (fun c1 => ?_) (fun c1 => ?_) <;> simp at c1
  ·have qf := zPh t.s t.x.now i;have hsv := zAs t.s;rw [hsv] at qf;unfold safV at qf;have hK : coK t (i + 1) = if zUu t.s t.x.now i = true then
    ⟨(coK t i).greens.set i (zGa ((coK t i).greens.getD i 0) 1048576), if coB t i t.s.eyes.length = true then (coK t i).busy.set i (zGa ((coK t i).busy.getD i 0) 1048576) else (coK t i).busy, coC t i (coK t i).came t.s.eyes.length⟩
    else coK t i := rfl
   have hF1 := hF (i + 1);cases hfb : zUu t.s t.x.now i with
   | false =>
    rw [hfb, if_neg (by decide)] at hK
    rw [hfb] at qf;simp (disch := omega) [go_sem];refine zAa qf [] (by simp [go_sem]) (.inl rfl) (by simp [go_sem]) (fun _ => ?_) (by simp [tabG, go_sem])
    simp (disch := omega) [go_sem];refine ⟨.inl (by kernel_rfl), ?_⟩
    refine zAb (i + 1) (by omega) (by omega) (Le.mk [(0, some 0), (512, some 512), (528, some 528), (544, some 544)] [0, 512, 528, 544] ⟨rfl, rfl, rfl⟩ ?_ ?_ ?_) <;> simp [go_sem, tckL, hF1, cntO, hK]
   | true =>
    rw [hfb, if_pos rfl] at hK;rw [hfb] at qf;simp (disch := omega) [go_sem];refine zAa qf [] (by simp [go_sem]) (.inl rfl) (by simp [go_sem]) (fun _ => ?_) (by simp [tabG, go_sem])
    simp (disch := omega) [go_sem];refine ⟨.inl (by kernel_rfl), ?_⟩
    refine zAe mixed (co2F t i) (fun k => k ≤ t.s.eyes.length) (fun k => t.s.eyes.length - k) 0 (by omega) ?_ ?_
    ·refine Le.mk [(0, some 0), (512, some 512), (528, some 528), (544, some 544)] [0, 512, 528, 544] ⟨rfl, rfl, rfl⟩ ?_ ?_ ?_ <;> simp [go_sem, tckL, co2F, cntO, coB, coC]
    ·intro k hk;have hF2 : ∀ k, co2F t i k = ⟨[(69, .int .i64 k), (68, .int .i64 t.s.eyes.length), (67, .sl 4 (t.s.eyes.map eyeV)), (5, .bool (coB t i k)), (2, .int .i64 i), (44, .int .i64 i), (43, .int .i64 t.s.phases.length), (0, .ptr 0 1 0 0)], [(0, cntO t 512 528 544 t.s.phases.length), (512, ⟨.arr, 3, 1, ints (coK t i).greens⟩), (528, ⟨.arr, 3, 1, ints (coK t i).busy⟩), (544, ⟨.arr, 3, 1, ints (coC t i (coK t i).came k)⟩)], 8192, [], 149, 1, tabG⟩ := fun _ => rfl
     rw [hF2];simp (disch := omega) [go_sem, tckL, cntO];refine zAc (fun d1 => ?_) (fun d1 => ?_) <;> simp at d1
     ·have hex : t.s.eyes.getD k ⟨0, 0, 0, 0⟩ = t.s.eyes[k] := by simp [d1]
      have hkp : k < t.x.puls.length := by have := h.puls; omega
      have hkw : k < t.was.length := by have := h.was; omega
      have hpx : t.x.puls.getD k pul0 = t.x.puls[k] := by simp [hkp]
      have hwx : t.was.getD k pul0 = t.was[k] := by simp [hkw]
      have b1 : coB t i (k + 1) = (coB t i k || coUp t i k) := rfl
      have b2 : coC t i (coK t i).came (k + 1) = if coUp t i k = true ∧ (t.was.getD k pul0).1 = false then (coC t i (coK t i).came k).set i (zGa ((coC t i (coK t i).came k).getD i 0) 1048576) else coC t i (coK t i).came k := rfl
      have b3 : coUp t i k = (decide ((t.s.eyes.getD k ⟨0, 0, 0, 0⟩).phase = (i : Int)) && (t.x.puls.getD k pul0).1) := rfl;rw [hex, hpx] at b3;rw [hwx] at b2;have hF3 := hF2 (k + 1);have hev : eyeV t.s.eyes[k] = .agg [.int .i64 t.s.eyes[k].phase, .int .i64 t.s.eyes[k].on, .int .i64 t.s.eyes[k].off, .int .i64 t.s.eyes[k].turns] := rfl;have hpv : pulV t.x.puls[k] = .agg [.bool t.x.puls[k].1, .bool t.x.puls[k].2.1, .int .i64 t.x.puls[k].2.2] := rfl;have hwv : pulV t.was[k] = .agg [.bool t.was[k].1, .bool t.was[k].2.1, .int .i64 t.was[k].2.2] := rfl;simp (disch := omega) [go_sem, d1, hkp, hev, hpv];rw [← b3];obtain ⟨⟨_, _, v3⟩, _, _, e3⟩ := yKe t h.vals i;obtain ⟨w1, w2⟩ := yZf t i v3 k;have hcl : (coC t i (coK t i).came k).length = t.s.phases.length := by rw [w2, e3]; exact l3
      have hic : i < (coC t i (coK t i).came k).length := by omega
      have hgx : (coC t i (coK t i).came k).getD i 0 = (coC t i (coK t i).came k)[i] := by simp [hic]
      have hvb := w1 _ (List.getElem_mem hic);have qm := zHk ((coC t i (coK t i).came k)[i]) 1048576 (by omega)
      rw [hgx] at b2;generalize coB t i (k + 1) = B1 at *;generalize coC t i (coK t i).came (k + 1) = C1 at *;refine zAc (fun h5 => ?_) (fun h5 => ?_)
      ·rw [h5] at b1 b2;rw [Bool.or_true] at b1;simp (disch := omega) [go_sem, hkw, hwv];cases hwa : (t.was[k]).1 with
       | true =>
        rw [hwa, if_neg (by simp)] at b2
        simp (disch := omega) [go_sem];refine zAb (k + 1) (by omega) (by omega) (Le.mk [(0, some 0), (512, some 512), (528, some 528), (544, some 544)] [0, 512, 528, 544] ⟨rfl, rfl, rfl⟩ ?_ ?_ ?_) <;> simp [go_sem, tckL, hF3, cntO, b1, b2]
       | false =>
        rw [hwa, if_pos (by simp)] at b2
        have hn := zBc hic;have m1 : (ints (coC t i (coK t i).came k)).set i (.int .i64 (zGa ((coC t i (coK t i).came k)[i]) 1048576)) = ints C1 := by rw [b2]; simp [ints, List.map_set]
        have hC1 : C1.length = t.s.phases.length := by rw [b2, List.length_set]; exact hcl
        have hpC := zAn C1;simp (disch := omega) [go_sem, hcl, hn, c1];refine zAa qm [] (by simp [go_sem]) (.inl rfl) (by simp [go_sem]) (fun _ => ?_)
        simp (disch := omega) [go_sem, hcl, hn];refine ⟨by omega, .inl (by kernel_rfl), ?_⟩
        refine zAb (k + 1) (by omega) (by omega) (Le.mk [(0, some 0), (512, some 512), (528, some 528), (544, some 544)] [0, 512, 528, 544] ⟨rfl, rfl, rfl⟩ ?_ ?_ ?_) <;> simp [go_sem, tckL, hpC, hF3, cntO, b1, m1]
      ·rw [h5] at b1 b2;rw [if_neg (by simp)] at b2
       rw [Bool.or_false] at b1;simp (disch := omega) [go_sem];refine zAb (k + 1) (by omega) (by omega) (Le.mk [(0, some 0), (512, some 512), (528, some 528), (544, some 544)] [0, 512, 528, 544] ⟨rfl, rfl, rfl⟩ ?_ ?_ ?_) <;> simp [go_sem, tckL, hF3, cntO, b1, b2]
     ·have hkk : k = t.s.eyes.length := by omega
      subst hkk;obtain ⟨⟨v1, v2, v3⟩, e1, e2, e3⟩ := yKe t h.vals i;have hgi : i < (coK t i).greens.length := by omega
      have hbi : i < (coK t i).busy.length := by omega
      have vg := v1 _ (List.getElem_mem hgi);have vb := v2 _ (List.getElem_mem hbi);have qg := zHk ((coK t i).greens[i]) 1048576 (by omega)
      have qb := zHk ((coK t i).busy[i]) 1048576 (by omega)
      have ng := zBc hgi;have nb := zBc hbi;have lg : (coK t i).greens.length = t.s.phases.length := by omega
      have lb : (coK t i).busy.length = t.s.phases.length := by omega
      have xg : (coK t i).greens.getD i 0 = (coK t i).greens[i] := by simp [hgi]
      have xb : (coK t i).busy.getD i 0 = (coK t i).busy[i] := by simp [hbi]
      rw [xg, xb] at hK;have mg : (ints (coK t i).greens).set i (.int .i64 (zGa ((coK t i).greens[i]) 1048576)) = ints ((coK t i).greens.set i (zGa ((coK t i).greens[i]) 1048576)) := by simp [ints, List.map_set]
      have mb : (ints (coK t i).busy).set i (.int .i64 (zGa ((coK t i).busy[i]) 1048576)) = ints ((coK t i).busy.set i (zGa ((coK t i).busy[i]) 1048576)) := by simp [ints, List.map_set]
      simp (disch := omega) [go_sem];refine zAc (fun h5 => ?_) (fun h5 => ?_)
      ·rw [h5, if_pos rfl] at hK;simp (disch := omega) [go_sem, lb, nb, c1];refine zAa qb [] (by simp [go_sem]) (.inl rfl) (by simp [go_sem]) (fun _ => ?_)
       simp (disch := omega) [go_sem, lg, lb, ng, nb, c1];refine ⟨.inl (by kernel_rfl), ?_⟩
       refine zAa qg [] (by simp [go_sem]) (.inl rfl) (by simp [go_sem]) (fun _ => ?_)
       simp (disch := omega) [go_sem, lg, ng, c1];refine ⟨.inl (by kernel_rfl), ?_⟩
       refine zAb (i + 1) (by omega) (by omega) (Le.mk [(0, some 0), (512, some 512), (528, some 528), (544, some 544)] [0, 512, 528, 544] ⟨rfl, rfl, rfl⟩ ?_ ?_ ?_) <;> simp [go_sem, tckL, hF1, cntO, hK, mg, mb]
      ·rw [h5, if_neg (by decide)] at hK
       simp (disch := omega) [go_sem, lg, ng, c1];refine zAa qg [] (by simp [go_sem]) (.inl rfl) (by simp [go_sem]) (fun _ => ?_)
       simp (disch := omega) [go_sem, lg, ng, c1];refine ⟨.inl (by kernel_rfl), ?_⟩
       refine zAb (i + 1) (by omega) (by omega) (Le.mk [(0, some 0), (512, some 512), (528, some 528), (544, some 544)] [0, 512, 528, 544] ⟨rfl, rfl, rfl⟩ ?_ ?_ ?_) <;> simp [go_sem, tckL, hF1, cntO, hK, mg]
  ·have hkk : i = t.s.phases.length := by omega
   subst hkk;simp (disch := omega) [go_sem];refine Le.mk [(0, some 0), (1, some 512), (2, some 528), (3, some 544)] [0, 512, 528, 544] ⟨rfl, rfl, rfl⟩ ?_ ?_ ?_ <;> simp [go_sem, zCc]
end
section
attribute [local go_sem] zAq zAi
def xEg (g b c : Int) : Int := min (ofF (min g (b + c)) * 65536 / ofF (max 1 g)) 70368744177664
def zapK (l : List Int) : Nat → List Int
 | 0 => l
 | k + 1 => (zapK l k).set k 0
theorem zIi (l : List Int) : ∀ k, (zapK l k).length = l.length
 | 0 => rfl
 | k + 1 => by simp only [zapK, List.length_set]; exact zIi l k
theorem zXk (l : List Int) : ∀ k j, k ≤ j → (zapK l k).getD j 0 = l.getD j 0
 | 0, j, _ => rfl
 | k + 1, j, h => by
  have := zXk l k j (by omega)
  simp only [zapK];rw [← this];simp only [List.getD_eq_getElem?_getD];rw [List.getElem?_set_ne (by omega)]
theorem zMi {l : List Int} (h : Val l) : ∀ k, Val (zapK l k)
 | 0 => h
 | k + 1 => by
  have := zMi h k;intro x hx;rcases List.mem_or_eq_of_mem_set hx with h1 | h1
  ·exact this x h1
  ·subst h1; omega
def tlL (t : TckN) : Nat → List Int
 | 0 => []
 | k + 1 => tlL t k ++ [xEg (t.x.greens.getD k 0) (t.x.busy.getD k 0) (t.x.came.getD k 0)]
theorem yDx (t : TckN) : ∀ k, (tlL t k).length = k
 | 0 => rfl
 | k + 1 => by simp [tlL, yDx t k]
def dueB (t : TckN) : Bool := decide ((t.x.tick + 1) % t.s.low = 0) && decide ((zNr t.x.sent).2 = 0)
def zZv (t : TckN) : RepN := ⟨t.s.id, t.x.rung.mode, t.x.tick, tlL t t.s.phases.length⟩
def yQe (t : TckN) : List UInt8 := wrtB ⟨3, (zNr t.x.sent).1, repB (zZv t)⟩
def zDf (t : TckN) : TckN := if dueB t = true then { t with out := yQe t, x := { t.x with greens := zapK t.x.greens t.s.phases.length, busy := zapK t.x.busy t.s.phases.length, came := zapK t.x.came t.s.phases.length, sent := (zNr t.x.sent).1 } } else t
theorem xVk {s : Sit} (hs : zAk s) : 1 ≤ s.low ∧ s.low ≤ 1048576 := by
 have h4 : zEc s = true := hs 4 (by decide)
 unfold zEc at h4
 simp [inN] at h4
 omega
structure xYe (t : TckN) : Prop where
 site : zAk t.s
 lens : t.x.greens.length = t.s.phases.length ∧ t.x.busy.length = t.s.phases.length ∧ t.x.came.length = t.s.phases.length
 vals : Val t.x.greens ∧ Val t.x.busy ∧ Val t.x.came
 tick : 0 ≤ t.x.tick ∧ t.x.tick ≤ 1073741824
 mode : 0 ≤ t.x.rung.mode
noncomputable def teF (t : TckN) (k : Nat) : St := ⟨[(59, .int .i64 k), (58, .int .i64 t.s.phases.length), (4, .ptr 512 1 0 0), (2, .int .u32 (zNr t.x.sent).1), (0, .ptr 0 1 0 0)], [(0, cntO t 1 2 3 t.s.phases.length), (1, ⟨.arr, 3, 1, ints (zapK t.x.greens k)⟩), (2, ⟨.arr, 3, 1, ints (zapK t.x.busy k)⟩), (3, ⟨.arr, 3, 1, ints (zapK t.x.came k)⟩), (512, ⟨.box, 193, 4, [.agg [.int .i64 t.s.id, .int .u8 t.x.rung.mode, .int .i64 t.x.tick, .obj 1024 k]]⟩), (1024, ⟨.arr, 2, 1, ints (tlL t k)⟩)], 2048, [], 151, 4, tabG⟩
set_option maxHeartbeats 4000000 in
theorem yQg (t : TckN) (h : xYe t) : FnR Tryz.prog 48 [cntO t 1 2 3 t.s.phases.length, ⟨.arr, 3, 1, ints t.x.greens⟩, ⟨.arr, 3, 1, ints t.x.busy⟩, ⟨.arr, 3, 1, ints t.x.came⟩] [.ptr 0 1 0 0]
  [cntO (zDf t) 1 2 3 t.s.phases.length, ⟨.arr, 3, 1, ints (zDf t).x.greens⟩, ⟨.arr, 3, 1, ints (zDf t).x.busy⟩, ⟨.arr, 3, 1, ints (zDf t).x.came⟩] (.tup []) tabG := by
 have h8 : t.s.phases.length ≤ 8 := h.site.shaped.2.2.2.1.2
 have l1 := h.lens.1
 have l2 := h.lens.2.1
 have l3 := h.lens.2.2
 obtain ⟨ht1, ht2⟩ := h.tick
 have hlow := xVk h.site
 have htm : (t.x.tick + 1).tmod t.s.low = (t.x.tick + 1) % t.s.low := Int.tmod_eq_emod_of_nonneg (by omega)
 have q1 := yNf t.x.sent
 have hT : zDf t = if dueB t = true then { t with out := yQe t, x := { t.x with greens := zapK t.x.greens t.s.phases.length, busy := zapK t.x.busy t.s.phases.length, came := zapK t.x.came t.s.phases.length, sent := (zNr t.x.sent).1 } } else t := rfl
 have hD : dueB t = (decide ((t.x.tick + 1) % t.s.low = 0) && decide ((zNr t.x.sent).2 = 0)) := rfl
 have hF0 : ∀ k, teF t k = ⟨[(59, .int .i64 k), (58, .int .i64 t.s.phases.length), (4, .ptr 512 1 0 0), (2, .int .u32 (zNr t.x.sent).1), (0, .ptr 0 1 0 0)], [(0, cntO t 1 2 3 t.s.phases.length), (1, ⟨.arr, 3, 1, ints (zapK t.x.greens k)⟩), (2, ⟨.arr, 3, 1, ints (zapK t.x.busy k)⟩), (3, ⟨.arr, 3, 1, ints (zapK t.x.came k)⟩), (512, ⟨.box, 193, 4, [.agg [.int .i64 t.s.id, .int .u8 t.x.rung.mode, .int .i64 t.x.tick, .obj 1024 k]]⟩), (1024, ⟨.arr, 2, 1, ints (tlL t k)⟩)], 2048, [], 151, 4, tabG⟩ := fun _ => rfl
 by_cases hd : dueB t = true
 ·rw [if_pos hd] at hT;rw [hD] at hd;simp at hd;generalize zDf t = T at *;subst hT;refine zAw mixed Tryz.func48 rfl rfl (by simp [Tryz.ntmps48]) (by simp) fun hwf E => ?_
  clear hwf;simp (disch := omega) [Tryz.ntmps48, go_sem, cntO, tckL];refine zAa q1 [] (by simp [go_sem]) (.inl rfl) (by simp [go_sem]) (fun _ => ?_)
  simp (disch := omega) [go_sem, htm];refine ⟨by omega, .inl (by kernel_rfl), ?_⟩
  refine zAc (fun b1 => ?_) (fun b1 => ?_) <;> simp at b1
  ·omega
  ·simp (disch := omega) [go_sem];refine ⟨.inl (by kernel_rfl), ?_⟩
   refine zAe mixed (teF t) (fun k => k ≤ t.s.phases.length) (fun k => t.s.phases.length - k) 0 (by omega) ?_ ?_
   ·have hi0 : ints [] = [] := rfl;refine Le.mk [(0, some 0), (1, some 1), (2, some 2), (3, some 3), (512, some 736), (1024, none)] [0, 1, 2, 3, 736] ⟨rfl, rfl, rfl⟩ ?_ ?_ ?_ <;> simp [go_sem, cntO, tckL, teF, cntO, zapK, tlL, hi0]
   ·intro k hk;rw [hF0];have z1 := zIi t.x.greens k;have z2 := zIi t.x.busy k;have z3 := zIi t.x.came k;have hTl := yDx t k;simp (disch := omega) [go_sem, cntO, tckL, cntO];refine zAc (fun c1 => ?_) (fun c1 => ?_) <;> simp at c1
    ·have g1 : k < (zapK t.x.greens k).length := by omega
     have g2 : k < (zapK t.x.busy k).length := by omega
     have g3 : k < (zapK t.x.came k).length := by omega
     have x1 : (zapK t.x.greens k)[k] = t.x.greens.getD k 0 := by rw [← zXk t.x.greens k k (Nat.le_refl _)]; simp [g1]
     have x2 : (zapK t.x.busy k)[k] = t.x.busy.getD k 0 := by rw [← zXk t.x.busy k k (Nat.le_refl _)]; simp [g2]
     have x3 : (zapK t.x.came k)[k] = t.x.came.getD k 0 := by rw [← zXk t.x.came k k (Nat.le_refl _)]; simp [g3]
     have v1 := zMi h.vals.1 k _ (List.getElem_mem g1);have v2 := zMi h.vals.2.1 k _ (List.getElem_mem g2);have v3 := zMi h.vals.2.2 k _ (List.getElem_mem g3);have n1 := zBc g1;have n2 := zBc g2;have n3 := zBc g3;have s1 : (ints (zapK t.x.greens k)).set k (.int .i64 0) = ints (zapK t.x.greens (k + 1)) := by simp [ints, zapK, List.map_set]
     have s2 : (ints (zapK t.x.busy k)).set k (.int .i64 0) = ints (zapK t.x.busy (k + 1)) := by simp [ints, zapK, List.map_set]
     have s3 : (ints (zapK t.x.came k)).set k (.int .i64 0) = ints (zapK t.x.came (k + 1)) := by simp [ints, zapK, List.map_set]
     have hL : ints (tlL t (k + 1)) = ints (tlL t k) ++ [.int .i64 (xEg (t.x.greens.getD k 0) (t.x.busy.getD k 0) (t.x.came.getD k 0))] := by simp [ints, tlL]
     have hLd : xEg (t.x.greens.getD k 0) (t.x.busy.getD k 0) (t.x.came.getD k 0) = min (ofF (min (t.x.greens.getD k 0) (t.x.busy.getD k 0 + t.x.came.getD k 0)) * 65536 / ofF (max 1 (t.x.greens.getD k 0))) 70368744177664 := rfl;rw [← x1, ← x2, ← x3] at hL hLd;have hF1 := hF0 (k + 1);have t1 := zIi t.x.greens (k + 1);have t2 := zIi t.x.busy (k + 1);have t3 := zIi t.x.came (k + 1);have u1 := yDx t (k + 1);have p1 := zAn (zapK t.x.greens (k + 1));have p2 := zAn (zapK t.x.busy (k + 1));have p3 := zAn (zapK t.x.came (k + 1));generalize zapK t.x.greens (k + 1) = Z1 at *;generalize zapK t.x.busy (k + 1) = Z2 at *;generalize zapK t.x.came (k + 1) = Z3 at *;generalize tlL t (k + 1) = TL1 at *;generalize (zapK t.x.greens k)[k] = G at *;generalize (zapK t.x.busy k)[k] = B at *;generalize (zapK t.x.came k)[k] = C at *;have hmn : (if B + C < G then B + C else G) = min G (B + C) := by split <;> omega
     have hmx : (if 1 < G then G else 1) = max 1 G := by split <;> omega
     have qa := zWp (min G (B + C));have qb := zWp (max 1 G);have o1 : ofF (min G (B + C)) = min G (B + C) * 65536 := by unfold ofF; rw [if_neg (by omega), if_neg (by omega)]
     have o2 : ofF (max 1 G) = max 1 G * 65536 := by unfold ofF; rw [if_neg (by omega), if_neg (by omega)]
     have qd := yYy (ofF (min G (B + C))) (ofF (max 1 G)) (by rw [o1]; omega) (by rw [o2]; omega)
     rw [← hLd] at qd;generalize xEg G B C = LD at *;generalize ofF (min G (B + C)) = FA at *;generalize ofF (max 1 G) = FB at *;simp (disch := omega) [go_sem, l1, l2, l3, z1, z2, z3, n1, n2, n3, hmn, c1];refine zAa qa [] (by simp [go_sem]) (.inl rfl) (by simp [go_sem]) (fun _ => ?_)
     simp (disch := omega) [go_sem, l1, z1, n1, hmx, c1];refine zAa qb [] (by simp [go_sem]) (.inl rfl) (by simp [go_sem]) (fun _ => ?_)
     simp (disch := omega) [go_sem];refine zAa qd [] (by simp [go_sem]) (.inl rfl) (by simp [go_sem]) (fun _ => ?_)
     simp (disch := omega) [go_sem, l1, l2, l3, z1, z2, z3, hTl, n1, n2, n3, c1];refine ⟨.inl (by kernel_rfl), ?_⟩
     refine ⟨⟨by omega, by omega⟩, .inl (by kernel_rfl), ?_⟩
     refine zAb (k + 1) (by omega) (by omega) (Le.mk [(0, some 0), (1, some 1), (2, some 2), (3, some 3), (512, some 512), (1024, some 1024)] [0, 1, 2, 3, 512, 1024] ⟨rfl, rfl, rfl⟩ ?_ ?_ ?_) <;> simp [go_sem, cntO, tckL, hF1, cntO, s1, s2, s3, hL]
    ·have hkk : k = t.s.phases.length := by omega
     subst hkk;have qr := xCy (zZv t) h.mode;have qw := yGk ⟨3, (zNr t.x.sent).1, repB (zZv t)⟩;have hO : wrtB ⟨3, (zNr t.x.sent).1, repB (zZv t)⟩ = yQe t := rfl;rw [hO] at qw;have hRv : xEb (zZv t) = .agg [.int .i64 t.s.id, .int .u8 t.x.rung.mode, .int .i64 t.x.tick, .sl 1 (ints (tlL t t.s.phases.length))] := rfl;rw [hRv] at qr;unfold msgV at qw;have p1 := zAn (zapK t.x.greens t.s.phases.length);have p2 := zAn (zapK t.x.busy t.s.phases.length);have p3 := zAn (zapK t.x.came t.s.phases.length);have pl := zAn (tlL t t.s.phases.length);have pb := zAg (repB (zZv t));have po := zAg (yQe t);generalize yQe t = OUT at *;generalize repB (zZv t) = RB at *;generalize repE (zZv t) = RE at *;generalize insE ⟨3, (zNr t.x.sent).1, RB⟩ = IE at *;generalize tlL t t.s.phases.length = LL at *;generalize zapK t.x.greens t.s.phases.length = Z1 at *;generalize zapK t.x.busy t.s.phases.length = Z2 at *;generalize zapK t.x.came t.s.phases.length = Z3 at *;simp (disch := omega) [go_sem];refine zCk qr [1024] [(1024, ⟨.ro, 2, 1, ints LL⟩)] (by simp [go_sem, hTl, pl]) (by simp [go_sem, pl]) (by simp [go_sem]) (fun _ => ?_)
     simp (disch := omega) [go_sem];refine zAa qw [] (by simp [go_sem]) (.inl rfl) (by simp [go_sem]) (fun _ => ?_)
     simp (disch := omega) [go_sem];refine Le.mk [(0, some 0), (1, some 1), (2, some 2), (3, some 3)] [0, 1, 2, 3] ⟨rfl, rfl, rfl⟩ ?_ ?_ ?_ <;> simp [go_sem, p1, p2, p3]
 ·rw [if_neg hd] at hT;rw [hD] at hd;rw [hT];refine zAw mixed Tryz.func48 rfl rfl (by simp [Tryz.ntmps48]) (by simp) fun hwf E => ?_
  clear hwf;simp (disch := omega) [Tryz.ntmps48, go_sem, cntO, tckL];refine zAa q1 [] (by simp [go_sem]) (.inl rfl) (by simp [go_sem]) (fun _ => ?_)
  simp (disch := omega) [go_sem, htm];refine ⟨by omega, .inl (by kernel_rfl), ?_⟩
  refine zAc (fun b1 => ?_) (fun b1 => ?_) <;> simp at b1
  ·simp (disch := omega) [go_sem];refine Le.mk [(0, some 0), (1, some 1), (2, some 2), (3, some 3)] [0, 1, 2, 3] ⟨rfl, rfl, rfl⟩ ?_ ?_ ?_ <;> simp [go_sem]
  ·simp [b1] at hd
end
section
structure zBw (s : Sit) (x : LocN) : Prop where
 disk : x.disk.length ≤ 1048576
 now : zVf s x.now
 mode : 0 ≤ x.rung.mode ∧ x.rung.mode ≤ 3
 well : 0 ≤ x.rung.well ∧ x.rung.well ≤ 1048576
 lat : x.rung.lat = true → x.rung.mode = 0 ∧ x.rung.well = 0
 sph : 0 ≤ x.sph ∧ x.sph < s.phases.length
 ssi : 0 ≤ x.ssi ∧ x.ssi ≤ 1048576
 rest : x.rest.length ≤ 2048
 age : 0 ≤ x.age ∧ x.age ≤ 1048576
 puls : x.puls.length = s.eyes.length
 gaps : x.gaps.length = s.eyes.length
 calls : x.calls < 4294967296
 wrong : 0 ≤ x.wrong ∧ x.wrong ≤ 1048576
 tick : 0 ≤ x.tick ∧ x.tick ≤ 1073741824
 lens : x.greens.length = s.phases.length ∧ x.busy.length = s.phases.length ∧ x.came.length = s.phases.length
 vals : Val x.greens ∧ Val x.busy ∧ Val x.came
theorem zRs {n m : Int} (h : 0 ≤ n ∧ n ≤ m) : 0 ≤ zGa n m ∧ zGa n m ≤ m := by unfold zGa; omega
theorem yDs (n : Nat) : Val (List.replicate n 0) := by
 intro x hx
 have := (List.mem_replicate.1 hx).2
 omega
theorem yRy {s : Sit} (h : zAk s) : 1 ≤ s.phases.length := h.shaped.2.2.2.1.1
theorem yBw {s : Sit} (hs : zAk s) {d : List UInt8} (hd : d.length ≤ 1048576) : zBw s (zGl s d) := by
 have hp := yRy hs
 unfold zGl
 constructor
 ·exact hd
 ·exact yUt hs
 ·show 0 ≤ (zIa (zCb d).mode).mode ∧ (zIa (zCb d).mode).mode ≤ 3
  unfold zIa; split <;> simp
 ·show 0 ≤ (zIa (zCb d).mode).well ∧ (zIa (zCb d).mode).well ≤ 1048576
  unfold zIa; split <;> simp
 ·show (zIa (zCb d).mode).lat = true → _
  unfold zIa; split <;> simp
 ·simp; omega
 ·simp
 ·simp
 ·simp
 ·simp
 ·simp
 ·simp
 ·simp
 ·simp
 ·simp
 ·exact ⟨yDs _, yDs _, yDs _⟩
theorem xKl {d : List UInt8} {l : List (Int × List UInt8)} (h : chkK d l = 0) : ∀ p ∈ l, chkE d p = 0 := by
 intro p hp
 unfold chkK at h
 cases hf : (l.map (chkE d)).find? (· != 0) with
 | none =>
  rw [List.find?_eq_none] at hf;have := hf _ (List.mem_map_of_mem hp);simpa using this
 | some x =>
  rw [hf] at h;have := List.find?_some hf;simp at this h;exact absurd h this
theorem yYx (d : List UInt8) (l : List (Int × List UInt8)) (wh to : Int) : (doL d l wh to).length ≤ d.length := by
 unfold doL
 split
 ·rename_i h;unfold doE at h;split at h
  ·omega
  ·split at h
   ·omega
   ·split at h
    ·omega
    ·rename_i h1 h2 h3;have hc := xKl (d := d) (l := l) (by omega)
     rw [zYy (fun i hi => hc _ (List.getElem_mem hi)) _ (Nat.le_refl _)]
     exact Nat.le_refl _
 ·simp
theorem yZg {s : Sit} {c : Nat} (l : List zCv) (g : Int) : (zMg s c l g).1 < 4294967296 := by
 unfold zMg
 split
 ·simp
 ·split
  ·simp
  ·exact zJc _ _
theorem xAy {n : Int} (h : 0 ≤ n ∧ n ≤ 1048576) : 0 ≤ addO n 1048576 ∧ addO n 1048576 ≤ 1048576 := by unfold addO; split <;> omega
theorem xKu {s : Sit} {n : Int} {w l : List Int} (h : 0 ≤ n ∧ n ≤ 1048576) : 0 ≤ (zJa s n w l).1 ∧ (zJa s n w l).1 ≤ 1048576 := by
 unfold zJa
 split
 ·simp
 ·split
  ·simp
  ·exact xAy h
theorem yTw (a : List UInt8) : (yBo a).length ≤ 2048 := by
 unfold yBo
 split
 ·rename_i h;rw [List.length_drop]; omega
 ·simp
section
variable {t : TckN}
theorem yTv (h : zBw t.s t.x) : zBw (zEm t).s (zEm t).x := by
 unfold zEm
 refine { h with rest := yTw _, age := ?_ }
 simp only
 split
 ·omega
 ·exact zRs h.age
theorem xBc (h : zBw t.s t.x) : zBw (zJu t).s (zJu t).x := h
noncomputable def zAv (t : TckN) : TckN := if (zOl t).2 = true then zJu (zEm t) else zEm t
theorem zLp (h : zBw t.s t.x) : zBw (zAv t).s (zAv t).x := by
 unfold zAv
 split
 ·exact xBc (yTv h)
 ·exact yTv h
theorem zMw : (zAv t).s = t.s ∧ (zAv t).i = t.i := by unfold zAv; split <;> exact ⟨rfl, rfl⟩
theorem yBa (h : t.x.disk.length ≤ 1048576) : (yBb t).length ≤ 1048576 := Nat.le_trans (yYx _ _ _ _) h
theorem yAa (hs : zAk t.s) (h : mayS t.s t.x.now = true) : snxS t.s t.x.now (zFx t.s) = zBj t.s t.x.now (zFx t.s) := by
 unfold snxS
 rw [if_neg (by simp [h]), if_neg (by rw [show zFx t.s = List.replicate t.s.groups.length 4 from rfl, zTy]; simp)]
theorem xPw (hs : zAk t.s) (h : zBw t.s t.x) : zBw (zOe t).s (zOe t).x := by
 have hf := yBw hs (yBa h.disk)
 unfold zOe
 refine { hf with now := ?_, tick := zRs h.tick }
 simp only
 rw [yAa hs h.now.1]
 exact yUs hs h.now.1
noncomputable def doT (t : TckN) : TckN := { t with x := { t.x with disk := doL t.x.disk t.writes t.writes.length 0 } }
theorem xXs (h : zBw t.s t.x) : zBw (doT t).s (doT t).x := { h with disk := Nat.le_trans (yYx _ _ _ _) h.disk }
theorem xUr (h : zBw t.s t.x) : zBw (seeT t).s (seeT t).x := by
 unfold seeT
 exact { h with puls := by simp only; rw [yEo]; exact h.puls, gaps := by simp only; rw [yEp]; exact h.gaps, calls := yZg _ _ }
theorem zSc (h : 0 ≤ t.x.wrong ∧ t.x.wrong ≤ 1048576) : 0 ≤ zFd t ∧ zFd t ≤ 1048576 := by
 unfold zFd
 split
 ·exact zRs h
 ·exact xKu h
theorem xKe (h : zBw t.s t.x) : zBw (zHo t).s (zHo t).x := { h with wrong := zSc h.wrong }
theorem yMh {s : Sit} {x : LocN} (hs : zAk s) (h : zBw s x) : zUy s x.rung = 0 := by
 have e : zAm s = 0 := by unfold zAm; rw [if_pos hs]
 have h1 := h.mode
 have h2 := h.well
 have h3 := h.lat
 unfold zUy
 rw [e, if_neg (by simp), if_neg]
 rintro (h4 | h4 | h4 | ⟨h4, h5⟩)
 ·omega
 ·omega
 ·omega
 ·have := h3 h4; omega
theorem zRr {s : Sit} {x : LocN} (hs : zAk s) (h : zBw s x) (f : FacN) : yAx s x.rung f = zGw s x.rung f := by
 unfold yAx; rw [if_pos (yMh hs h)]
noncomputable def xOr (t : TckN) (f : FacN) : TckN := { t with x := { t.x with rung := yAx t.s t.x.rung f } }
theorem xQg {s : Sit} (hs : zAk s) : 1 ≤ s.heal ∧ s.heal ≤ 1048576 := by
 have h4 : zEc s = true := hs 4 (by decide)
 unfold zEc at h4
 simp [inN] at h4
 omega
theorem xCe {s : Sit} (hs : zAk s) {x : LocN} (h : zBw s x) (f : FacN) : (0 ≤ (zGw s x.rung f).mode ∧ (zGw s x.rung f).mode ≤ 3) ∧ (0 ≤ (zGw s x.rung f).well ∧ (zGw s x.rung f).well ≤ 1048576) ∧ ((zGw s x.rung f).lat = true → (zGw s x.rung f).mode = 0 ∧ (zGw s x.rung f).well = 0) := by
 have h1 := h.mode
 have h2 := h.well
 have hh := xQg hs
 have hm := ySz (x.rung.lat || !f.lights) f
 have hl : (x.rung.lat || !f.lights) = true → mayR (x.rung.lat || !f.lights) f = 0 := fun h => by
  unfold mayR; rw [if_pos (.inl h)]
 unfold zGw
 split
 ·refine ⟨hm, by simp, fun h3 => ⟨hl h3, rfl⟩⟩
 ·rename_i h3;split
  ·refine ⟨by simp; omega, by simp, fun h4 => ?_⟩
   have := hl h4; omega
  ·refine ⟨h1, by simp; omega, fun h4 => ?_⟩
   have := hl h4; omega
theorem xOq (hs : zAk t.s) (h : zBw t.s t.x) (f : FacN) : zBw (xOr t f).s (xOr t f).x := by
 obtain ⟨h1, h2, h3⟩ := xCe hs h f
 rw [← zRr hs h f] at h1 h2 h3
 exact { h with mode := h1, well := h2, lat := h3 }
theorem yRf {s : Sit} {r : RunN} {f : FacN} (h : (zGw s r f).mode = 2) : f.plan = true := by
 have hm : ∀ l, 2 ≤ mayR l f → f.plan = true := fun l h => by
  unfold mayR at h;split at h
  ·omega
  ·split at h
   ·rename_i h2; exact h2.2.1
   ·split at h
    ·rename_i h2; exact h2
    ·omega
 apply hm (r.lat || !f.lights)
 unfold zGw at h
 split at h
 ·simp only at h; omega
 ·split at h <;> (simp only at h; omega)
theorem xOl {s : Sit} (hs : zAk s) {p : Nat} {n : Int} (hp : p < s.phases.length) (hn : 0 ≤ n ∧ n ≤ 1048576) (w : SafN) (c g : Nat) : (0 ≤ (seqP s p n w c g).1 ∧ (seqP s p n w c g).1 < s.phases.length) ∧ 0 ≤ (seqP s p n w c g).2 ∧ (seqP s p n w c g).2 ≤ 1048576 := by
 have h1 := yZv (othN s p c) p s.phases.length (by omega)
 have h2 := xAy hn
 unfold seqP
 split
 ·simp; omega
 ·split
  ·simp; omega
  ·simp; omega
theorem yRp {s : Sit} (hs : zAk s) (p : Pln) (t : Int) : 0 ≤ (zJj s p t).1 ∧ (zJj s p t).1 < s.phases.length := by
 have hp := yRy hs
 have hc := yKq (t := t) (p := p) hs
 unfold zJj
 generalize atN s p t = A at *
 obtain ⟨ph, into, e⟩ := A
 simp only at *
 split
 ·rename_i he;obtain ⟨j, rfl, j1, j2, _⟩ := hc he;simp only [Int.toNat_natCast];split
  ·have := Nat.mod_lt (j + 1) (show 0 < s.phases.length by omega)
   omega
  ·omega
 ·simp; omega
theorem xMt (hs : zAk t.s) (h : zBw t.s t.x) (k : KepN) : zBw (askT t k).s (askT t k).x := by
 obtain ⟨sp, hsp⟩ := Int.eq_ofNat_of_zero_le h.sph.1
 have h1 := h.sph.2
 have hq := xOl hs (show t.x.sph.toNat < t.s.phases.length by omega) h.ssi t.x.now t.x.calls (yBs t)
 have hw := yRp hs (xAd t k) t.x.tick
 unfold askT
 split
 ·exact h
 ·split
  ·exact { h with sph := hq.1, ssi := hq.2 }
  ·exact { h with sph := hw, ssi := by simp }
theorem yKu {s : Sit} (hs : zAk s) {p : Int} (hp : 0 ≤ p ∧ p < s.phases.length) : (zLf s p).length = s.groups.length := by
 have e : zAm s = 0 := by unfold zAm; rw [if_pos hs]
 have h0 : tE s (zAm s) p = 0 := by unfold tE zIp; rw [e, if_neg (by simp), if_neg (by simp), if_neg (by omega)]
 unfold zLf
 rw [if_pos h0]
 exact yDy _ _ _
theorem xKz (hs : zAk t.s) (h : zBw t.s t.x) (k : KepN) : (askT t k).asks.length = t.s.groups.length := by
 have hk := xMt hs h k
 have hph := hk.sph
 unfold askT at *
 split at hk
 ·rename_i h1;rw [if_pos h1]; simp [zFx]
 ·rename_i h1;rw [if_neg h1] at *;split at hk
  ·rename_i h2;rw [if_pos h2] at *;exact yKu hs hph
  ·rename_i h2;rw [if_neg h2] at *;exact yKu hs hph
noncomputable def admT (t : TckN) : TckN := { t with lights := zPf t.s t.x.now t.asks }
noncomputable def nowT (t : TckN) : TckN := { t with x := { t.x with now := snxS t.s t.x.now t.lights } }
theorem zJr (hs : zAk t.s) (h : zBw t.s t.x) (ha : t.asks.length = t.s.groups.length) : (admT t).lights = zCd t.s t.x.now.groups t.x.now.start t.x.now.flashed t.asks := xLj hs h.now ha
theorem yIq (hs : zAk t.s) (h : zBw t.s t.x) (ha : t.asks.length = t.s.groups.length) : (nowT (admT t)).x.now = zBj t.s t.x.now (admT t).lights := by
 have h1 := zJr hs h ha
 have hf := zPs hs h.now ha
 rw [← h1] at hf
 show snxS t.s t.x.now (admT t).lights = _
 unfold snxS
 rw [if_neg (by simp [h.now.1]), if_neg (by rw [hf]; simp)]
theorem xVf (hs : zAk t.s) (h : zBw t.s t.x) (ha : t.asks.length = t.s.groups.length) : zBw (nowT (admT t)).s (nowT (admT t)).x := by
 have h1 := yIq hs h ha
 have h2 := zJr hs h ha
 rw [h2] at h1
 have h3 : zVf t.s (nowT (admT t)).x.now := by rw [h1]; exact xEz hs h.now ha
 exact { h with now := h3 }
theorem yKd (h : zBw t.s t.x) : zBw (zCc t).s (zCc t).x := by
 obtain ⟨h1, h2, h3, h4⟩ := yKe t h.vals t.s.phases.length
 obtain ⟨e1, e2, e3⟩ := h.lens
 exact { h with lens := ⟨h2.trans e1, h3.trans e2, h4.trans e3⟩, vals := h1 }
theorem yQh (h : zBw t.s t.x) : zBw (zDf t).s (zDf t).x := by
 obtain ⟨v1, v2, v3⟩ := h.vals
 obtain ⟨e1, e2, e3⟩ := h.lens
 unfold zDf
 split
 ·exact { h with lens := ⟨by simp only; rw [zIi]; exact e1, by simp only; rw [zIi]; exact e2, by simp only; rw [zIi]; exact e3⟩, vals := ⟨zMi v1 _, zMi v2 _, zMi v3 _⟩ }
 ·exact h
theorem zZx : (zDf t).s = t.s ∧ (zDf t).i = t.i ∧ (zDf t).lights = t.lights ∧ (zDf t).x.rung = t.x.rung ∧ (zDf t).x.now = t.x.now ∧ (zDf t).x.tick = t.x.tick := by unfold zDf; split <;> exact ⟨rfl, rfl, rfl, rfl, rfl, rfl⟩
theorem yHm (k : KepN) : (askT t k).s = t.s ∧ (askT t k).i = t.i ∧ (askT t k).x.rung = t.x.rung ∧ (askT t k).x.now = t.x.now ∧ (askT t k).was = t.was := by
 unfold askT; split
 ·exact ⟨rfl, rfl, rfl, rfl, rfl⟩
 ·split <;> exact ⟨rfl, rfl, rfl, rfl, rfl⟩
noncomputable def xCa (t : TckN) : TckN := { t with x := { t.x with tick := zGa t.x.tick 1073741824 } }
noncomputable def go1 (t : TckN) : TckN := seeT (doT t)
noncomputable def go2 (t : TckN) : TckN := xOr (zHo (go1 t)) (zFp (go1 t))
noncomputable def go3 (t : TckN) : TckN := askT (go2 t) (zCb (go1 t).x.disk)
noncomputable def go4 (t : TckN) : TckN := nowT (admT (go3 t))
noncomputable def goT (t : TckN) : TckN := xCa (zDf (zCc (go4 t)))
noncomputable def runT (t : TckN) : TckN := if t.i.lost = true then zOe (zAv t) else goT (zAv t)
theorem zWg (h : zBw t.s t.x) : zBw t.s (go1 t).x := xUr (xXs h)
theorem yUg (hs : zAk t.s) (h : zBw t.s t.x) : zBw t.s (go2 t).x := xOq (t := zHo (go1 t)) hs (xKe (t := go1 t) (zWg h)) _
theorem yUf : (go3 t).s = t.s ∧ (go3 t).i = t.i := ⟨(yHm (t := go2 t) _).1, (yHm (t := go2 t) _).2.1⟩
theorem yJh (hs : zAk t.s) (h : zBw t.s t.x) : zBw t.s (go3 t).x := by
 have := xMt (t := go2 t) hs (yUg hs h) (zCb (go1 t).x.disk)
 rw [(yHm (t := go2 t) _).1] at this
 exact this
theorem yGh (hs : zAk t.s) (h : zBw t.s t.x) : (go3 t).asks.length = t.s.groups.length := xKz (t := go2 t) hs (yUg hs h) _
theorem xMl (hs : zAk t.s) (h : zBw t.s t.x) : zBw t.s (go4 t).x := by
 have h3 := yJh hs h
 have e := (yUf (t := t)).1
 have := xVf (t := go3 t) (by rw [e]; exact hs) (by rw [e]; exact h3) (by rw [e]; exact yGh hs h)
 rw [show (nowT (admT (go3 t))).s = t.s from e] at this
 exact this
theorem xNz (h : zBw t.s t.x) : zBw (xCa t).s (xCa t).x := { h with tick := zRs h.tick }
theorem xQk : (go4 t).s = t.s ∧ (go4 t).i = t.i := yUf
theorem xQj : (goT t).s = t.s ∧ (goT t).i = t.i := by
 have h1 := xQk (t := t)
 have h2 := zZx (t := zCc (go4 t))
 exact ⟨h2.1.trans h1.1, h2.2.1.trans h1.2⟩
theorem go_ok (hs : zAk t.s) (h : zBw t.s t.x) : zBw t.s (goT t).x := by
 have h4 := xMl hs h
 have e := (xQk (t := t)).1
 have := xNz (t := zDf (zCc (go4 t))) (yQh (t := zCc (go4 t)) (yKd (t := go4 t) (by rw [e]; exact h4)))
 rw [show (xCa (zDf (zCc (go4 t)))).s = t.s from (xQj (t := t)).1] at this
 exact this
theorem xUy : (runT t).s = t.s ∧ (runT t).i = t.i := by
 unfold runT
 have h := zMw (t := t)
 split
 ·exact h
 ·exact ⟨(xQj (t := zAv t)).1.trans h.1, (xQj (t := zAv t)).2.trans h.2⟩
theorem xUx (hs : zAk t.s) (h : zBw t.s t.x) : zBw t.s (runT t).x := by
 have h1 := zLp h
 have e := (zMw (t := t)).1
 rw [e] at h1
 unfold runT
 split
 ·have := xPw (t := zAv t) (by rw [e]; exact hs) (by rw [e]; exact h1)
  rw [show (zOe (zAv t)).s = t.s from e] at this
  exact this
 ·have := go_ok (t := zAv t) (by rw [e]; exact hs) (by rw [e]; exact h1)
  rw [e] at this;exact this
end
end
section
attribute [local go_sem] zAq zAi
set_option maxHeartbeats 8000000 in
theorem xCv (t : TckN) (hs : zAk t.s) (h : zBw t.s t.x) (hl : t.i.lost = true) : FnR Tryz.prog 23 [tckO t] [.ptr 0 1 0 0] [tckO (runT t)] (.tup []) tabG := by
 have q1 := zVj t hs h.rest h.age
 have q2 := zSe (zEm t)
 have hh := zLp h
 have he := zMw (t := t)
 have q3 := yTb (zAv t) (by rw [he.1]; exact hs) (yBa hh.disk) (by have := (zFk hh.now.1).1; rw [this, he.1]; have := (zMc hs).g16; omega) hh.tick
 have hR : runT t = zOe (zAv t) := by unfold runT; rw [if_pos hl]
 rw [hR]
 have hT : zAv t = if (zOl t).2 = true then zJu (zEm t) else zEm t := rfl
 have hTi : (zEm t).i.lost = true := hl
 have hWi : (zJu (zEm t)).i.lost = true := hl
 generalize (zOl t).2 = b at *
 generalize zAv t = T at *
 generalize zOe T = L at *
 generalize zJu (zEm t) = W at *
 generalize zEm t = H at *
 cases b with
 | true =>
  rw [if_pos rfl] at hT;subst hT;refine zAw mixed Tryz.func23 rfl rfl (by simp [Tryz.ntmps23]) (by simp) fun hwf E => ?_
  clear hwf;simp (disch := omega) [Tryz.ntmps23, go_sem, tckO, tckD, tckL];refine zAf q1 [(0, some 0)] [0] [] [] ?_ ?_ ?_ (.inl ⟨rfl, .inl rfl⟩) (fun _ => ?_) (by simp [tabG, go_sem])
  ·simp [go_sem]
  ·simp [go_sem, tckO, tckD, tckL]
  ·simp [go_sem, tckO, tckD, tckL]
  simp (disch := omega) [go_sem, tckO, tckD, tckL];refine zAf q2 [(0, some 0)] [0] [] [] ?_ ?_ ?_ (.inl ⟨rfl, .inl rfl⟩) (fun _ => ?_) (by simp [tabG, go_sem])
  ·simp [go_sem]
  ·simp [go_sem, tckO, tckD, tckL]
  ·simp [go_sem, tckO, tckD, tckL]
  simp (disch := omega) [go_sem, tckO, tckD, tckL];simp (disch := omega) [go_sem, hWi];refine zAf q3 [(0, some 0)] [0] [] [] ?_ ?_ ?_ (.inl ⟨rfl, .inl rfl⟩) (fun _ => ?_) (by simp [tabG, go_sem])
  ·simp [go_sem]
  ·simp [go_sem, tckO, tckD, tckL, hWi]
  ·simp [go_sem, tckO, tckD, tckL]
  simp (disch := omega) [go_sem, tckO, tckD, tckL];refine Le.mk [(0, some 0)] [0] ⟨rfl, rfl, rfl⟩ ?_ ?_ ?_ <;> simp [go_sem]
 | false =>
  rw [if_neg (by decide)] at hT
  subst hT;refine zAw mixed Tryz.func23 rfl rfl (by simp [Tryz.ntmps23]) (by simp) fun hwf E => ?_
  clear hwf;simp (disch := omega) [Tryz.ntmps23, go_sem, tckO, tckD, tckL];refine zAf q1 [(0, some 0)] [0] [] [] ?_ ?_ ?_ (.inl ⟨rfl, .inl rfl⟩) (fun _ => ?_) (by simp [tabG, go_sem])
  ·simp [go_sem]
  ·simp [go_sem, tckO, tckD, tckL]
  ·simp [go_sem, tckO, tckD, tckL]
  simp (disch := omega) [go_sem, tckO, tckD, tckL];simp (disch := omega) [go_sem, hTi];refine zAf q3 [(0, some 0)] [0] [] [] ?_ ?_ ?_ (.inl ⟨rfl, .inl rfl⟩) (fun _ => ?_) (by simp [tabG, go_sem])
  ·simp [go_sem]
  ·simp [go_sem, tckO, tckD, tckL, hTi]
  ·simp [go_sem, tckO, tckD, tckL]
  simp (disch := omega) [go_sem, tckO, tckD, tckL];refine Le.mk [(0, some 0)] [0] ⟨rfl, rfl, rfl⟩ ?_ ?_ ?_ <;> simp [go_sem]
set_option maxHeartbeats 16000000 in
theorem xCw (t : TckN) (hs : zAk t.s) (h : zBw t.s t.x) (he : t.i.eyes < 4294967296) (hl : t.i.lost = false) : FnR Tryz.prog 23 [tckO t] [.ptr 0 1 0 0] [tckO (runT t)] (.tup []) tabG := by
 have q1 := zVj t hs h.rest h.age
 have q2 := zSe (zEm t)
 have hh0 := zLp h
 obtain ⟨hes, hei⟩ := zMw (t := t)
 have hT : zAv t = if (zOl t).2 = true then zJu (zEm t) else zEm t := rfl
 have hTi : (zEm t).i.lost = false := hl
 have hWi : (zJu (zEm t)).i.lost = false := hl
 have hR : runT t = goT (zAv t) := by unfold runT; rw [if_neg (by simp [hl])]
 have hsT : zAk (zAv t).s := by rw [hes]; exact hs
 have heT : (zAv t).i.eyes < 4294967296 := by rw [hei]; exact he
 rw [hR]
 clear hR h hs hes hei he hl
 generalize (zOl t).2 = b at *
 generalize zAv t = T at *
 generalize zJu (zEm t) = W at *
 generalize zEm t = H at *
 have h := hh0
 have hs := hsT
 have h16 := (zMc hs).g16
 have q3 := yYw T.x.disk T.writes T.writes.length 0
 have hdo := xXs h
 have q4 : FnR Tryz.prog 41 [tckO (doT T)] [.ptr 0 1 0 0] [tckO (go1 T)] (.tup []) tabG := xCn (doT T) hs hdo.puls hdo.gaps hdo.calls heT
 have k1 := zWg h
 have g16 : ∀ {x : LocN}, zBw T.s x → x.now.groups.length ≤ 1048576 := fun hx => by have := (zFk hx.now.1).1; omega
 have q5 : FnR Tryz.prog 42 [tckO (go1 T)] [.ptr 0 1 0 0] [tckO (zHo (go1 T))] (.tup [facV (zFp (go1 T)), kepV (zCb (go1 T).x.disk)]) tabG := yOb (go1 T) k1.wrong (g16 k1)
 have q6 := yBf (zHo (go1 T)).s (zHo (go1 T)).x.rung (zFp (go1 T))
 have k2 := yUg hs h
 have hpl : (go2 T).x.rung.mode = 2 → (zCb (go1 T).x.disk).plans ≠ [] := fun hm => by
  have e : (go2 T).x.rung = zGw T.s (go1 T).x.rung (zFp (go1 T)) := zRr hs k1 (zFp (go1 T));rw [e] at hm;have := yRf hm;unfold zFp at this;simp at this;intro h0;rw [h0] at this;simp at this
 have q7 : FnR Tryz.prog 44 [tckO (go2 T)] [.ptr 0 1 0 0, kepV (zCb (go1 T).x.disk)] [tckO (go3 T)] (.tup []) tabG := xKy (go2 T) _ ⟨hs, k2.sph, k2.ssi, (zFk k2.now.1).1, k2.calls, k2.gaps, hpl⟩
 have k3 := yJh hs h
 have e3 := (yUf (t := T)).1
 have q8 := yPi (go3 T).s (go3 T).x.now (go3 T).asks
 have q9 := yJw (go3 T).s (go3 T).x.now (admT (go3 T)).lights (by rw [e3]; exact hs) (g16 k3)
 have k4 := xMl hs h
 have e4 := (xQk (t := T)).1
 have hws : (go4 T).was.length = T.s.eyes.length := by
  have : (go4 T).was = (go2 T).was := (yHm (t := go2 T) _).2.2.2.2;rw [this];show T.x.puls.length = _
  exact h.puls
 have q10 := yEa (go4 T) ⟨by rw [e4]; exact hs, by rw [e4]; exact k4.puls, by rw [e4]; exact hws, by rw [e4]; exact k4.lens, k4.vals⟩
 have k5 := yKd (t := go4 T) (by rw [e4]; exact k4)
 have q11 : FnR Tryz.prog 48 [cntO (zCc (go4 T)) 1 2 3 (go4 T).s.phases.length, ⟨.arr, 3, 1, ints (zCc (go4 T)).x.greens⟩, ⟨.arr, 3, 1, ints (zCc (go4 T)).x.busy⟩, ⟨.arr, 3, 1, ints (zCc (go4 T)).x.came⟩] [.ptr 0 1 0 0]
  [cntO (zDf (zCc (go4 T))) 1 2 3 (go4 T).s.phases.length, ⟨.arr, 3, 1, ints (zDf (zCc (go4 T))).x.greens⟩, ⟨.arr, 3, 1, ints (zDf (zCc (go4 T))).x.busy⟩, ⟨.arr, 3, 1, ints (zDf (zCc (go4 T))).x.came⟩] (.tup []) tabG := yQg (zCc (go4 T)) ⟨by show zAk (go4 T).s; rw [e4]; exact hs, k5.lens, k5.vals, k5.tick, k5.mode.1⟩
 have k6 := yQh k5
 have q12 := zHk (zDf (zCc (go4 T))).x.tick 1073741824 (by have := k6.tick; omega)
 have hd : doT T = { T with x := { T.x with disk := doL T.x.disk T.writes T.writes.length 0 } } := rfl
 have h2 : go2 T = { zHo (go1 T) with x := { (zHo (go1 T)).x with rung := yAx (zHo (go1 T)).s (zHo (go1 T)).x.rung (zFp (go1 T)) } } := rfl
 have h4 : go4 T = { go3 T with lights := zPf (go3 T).s (go3 T).x.now (go3 T).asks, x := { (go3 T).x with now := snxS (go3 T).s (go3 T).x.now (admT (go3 T)).lights } } := rfl
 have hal : (admT (go3 T)).lights = zPf (go3 T).s (go3 T).x.now (go3 T).asks := rfl
 rw [hal] at q9 h4
 have hG : goT T = { zDf (zCc (go4 T)) with x := { (zDf (zCc (go4 T))).x with tick := zGa (zDf (zCc (go4 T))).x.tick 1073741824 } } := rfl
 obtain ⟨l1, l2, l3⟩ := k5.lens
 rw [show (zCc (go4 T)).s.phases.length = (go4 T).s.phases.length from rfl] at l1 l2 l3
 obtain ⟨m1, m2, m3⟩ := k6.lens
 rw [show (zDf (zCc (go4 T))).s.phases.length = (go4 T).s.phases.length by rw [(zZx (t := zCc (go4 T))).1]; rfl] at m1 m2 m3
 clear k1 k2 k3 k4 k5 k6 hdo e3 e4 hws hpl g16 hal h16 hh0 hsT heT
 generalize goT T = R at *
 generalize zDf (zCc (go4 T)) = TL at *
 generalize zCc (go4 T) = C at *
 generalize (go4 T).s.phases.length = n at *
 generalize go4 T = G4 at *
 generalize zPf (go3 T).s (go3 T).x.now (go3 T).asks = AL at *
 generalize zQx (go3 T).s (go3 T).x.now (go3 T).asks = AE at *
 generalize snxS (go3 T).s (go3 T).x.now AL = NS at *
 generalize snxF (go3 T).s (go3 T).x.now AL = NF at *
 generalize snxE (go3 T).s (go3 T).x.now = NE at *
 generalize go3 T = G3 at *
 generalize go2 T = G2 at *
 generalize zCb (go1 T).x.disk = K at *
 generalize zFp (go1 T) = FF at *
 generalize zHo (go1 T) = F at *
 generalize yAx F.s F.x.rung FF = RR at *
 generalize zUy F.s F.x.rung = RE at *
 generalize go1 T = G1 at *
 generalize doT T = D at *
 generalize doL T.x.disk T.writes T.writes.length 0 = dd at *
 generalize doE T.x.disk T.writes T.writes.length 0 = de at *
 subst hd h2 h4 hG
 have hsv := zAs
 have hkp : zAz (K.plans.map plnV) := zAr _
 have hpA := zDd AL
 have hpN := zFb NS.groups
 have i1 := zAn TL.x.greens
 have i2 := zAn TL.x.busy
 have i3 := zAn TL.x.came
 rw [hsv] at q6 q8 q9
 unfold devV at q3
 unfold runV facV at q6
 unfold facV kepV at q5
 unfold kepV at q7
 unfold safV at q8 q9
 obtain ⟨kg, km, kps⟩ := K
 simp only at q3 q4 q5 q6 q7 q8 q9 q10 q11 q12 hkp
 cases b with
 | true =>
  rw [if_pos rfl] at hT;subst hT;refine zAw mixed Tryz.func23 rfl rfl (by simp [Tryz.ntmps23]) (by simp) fun hwf E => ?_
  clear hwf;simp (disch := omega) [Tryz.ntmps23, go_sem, tckO, tckD, tckL];refine zAf q1 [(0, some 0)] [0] [] [] ?_ ?_ ?_ (.inl ⟨rfl, .inl rfl⟩) (fun _ => ?_) (by simp [tabG, go_sem])
  ·simp [go_sem]
  ·simp [go_sem, tckO, tckD, tckL]
  ·simp [go_sem, tckO, tckD, tckL]
  simp (disch := omega) [go_sem, tckO, tckD, tckL];refine zAf q2 [(0, some 0)] [0] [] [] ?_ ?_ ?_ (.inl ⟨rfl, .inl rfl⟩) (fun _ => ?_) (by simp [tabG, go_sem])
  ·simp [go_sem]
  ·simp [go_sem, tckO, tckD, tckL]
  ·simp [go_sem, tckO, tckD, tckL]
  simp (disch := omega) [go_sem, tckO, tckD, tckL];simp (disch := omega) [go_sem, hWi];refine zAa q3 [] (by simp [go_sem]) (.inl rfl) (by simp [go_sem]) (fun _ => ?_)
  simp (disch := omega) [go_sem];refine ⟨.inl (by kernel_rfl), ?_⟩
  refine zAf q4 [(0, some 0)] [0] [] [] ?_ ?_ ?_ (.inl ⟨rfl, .inl rfl⟩) (fun _ => ?_) (by simp [tabG, go_sem])
  ·simp [go_sem]
  ·simp [go_sem, tckO, tckD, tckL, hWi]
  ·simp [go_sem, tckO, tckD, tckL]
  simp (disch := omega) [go_sem, tckO, tckD, tckL];refine zAf q5 [(0, some 0)] [0] [] [] ?_ ?_ ?_ (.inl ⟨rfl, .inl rfl⟩) (fun _ => ?_) (by simp [tabG, go_sem])
  ·simp [go_sem]
  ·simp [go_sem, tckO, tckD, tckL]
  ·simp [go_sem, tckO, tckD, tckL]
  simp (disch := omega) [go_sem, tckO, tckD, tckL];refine zAa q6 [] (by simp [go_sem]) (.inl rfl) (by simp [go_sem]) (fun _ => ?_) (by simp [tabG, go_sem])
  simp (disch := omega) [go_sem];refine ⟨.inl (by kernel_rfl), ?_⟩
  refine zAf q7 [(0, some 0)] [0] [] [] ?_ ?_ ?_ (.inl ⟨rfl, .inl rfl⟩) (fun _ => ?_) (by simp [tabG, go_sem])
  ·simp [go_sem]
  ·simp [go_sem, tckO, tckD, tckL]
  ·simp [go_sem, tckO, tckD, tckL]
  simp (disch := omega) [go_sem, tckO, tckD, tckL];refine zAa q8 [] (by simp [go_sem]) (.inl rfl) (by simp [go_sem]) (fun _ => ?_) (by simp [tabG, go_sem])
  simp (disch := omega) [go_sem];refine ⟨.inl (by kernel_rfl), ?_⟩
  refine zAa q9 [] (by simp [go_sem]) (.inl rfl) (by simp [go_sem]) (fun _ => ?_) (by simp [tabG, go_sem])
  simp (disch := omega) [go_sem];refine ⟨.inl (by kernel_rfl), ?_⟩
  refine zAf q10 [(0, some 0)] [0] [] [] ?_ ?_ ?_ (.inl ⟨rfl, .inl rfl⟩) (fun _ => ?_) (by simp [tabG, go_sem])
  ·simp [go_sem]
  ·simp [go_sem, tckO, tckD, tckL]
  ·simp [go_sem, tckL, cntO]
  simp (disch := omega) [go_sem, tckL, cntO];refine zAf q11 [(0, some 0), (1, some 1777), (2, some 1778), (3, some 1779)] [0, 1777, 1778, 1779] [] [] ?_ ?_ ?_ (.inl ⟨rfl, .inl rfl⟩) (fun _ => ?_) (by simp [tabG, go_sem])
  ·simp [go_sem]
  ·simp [go_sem, tckL, cntO]
  ·simp [go_sem, tckL, cntO]
  simp (disch := omega) [go_sem, tckL, cntO];refine zAa q12 [] (by simp [go_sem]) (.inl rfl) (by simp [go_sem]) (fun _ => ?_)
  simp (disch := omega) [go_sem];refine Le.mk [(0, some 0)] [0] ⟨rfl, rfl, rfl⟩ ?_ ?_ ?_ <;> simp [go_sem, m1, m2, m3, i1, i2, i3]
 | false =>
  rw [if_neg (by decide)] at hT
  subst hT;refine zAw mixed Tryz.func23 rfl rfl (by simp [Tryz.ntmps23]) (by simp) fun hwf E => ?_
  clear hwf;simp (disch := omega) [Tryz.ntmps23, go_sem, tckO, tckD, tckL];refine zAf q1 [(0, some 0)] [0] [] [] ?_ ?_ ?_ (.inl ⟨rfl, .inl rfl⟩) (fun _ => ?_) (by simp [tabG, go_sem])
  ·simp [go_sem]
  ·simp [go_sem, tckO, tckD, tckL]
  ·simp [go_sem, tckO, tckD, tckL]
  simp (disch := omega) [go_sem, tckO, tckD, tckL];simp (disch := omega) [go_sem, hTi];refine zAa q3 [] (by simp [go_sem]) (.inl rfl) (by simp [go_sem]) (fun _ => ?_)
  simp (disch := omega) [go_sem];refine ⟨.inl (by kernel_rfl), ?_⟩
  refine zAf q4 [(0, some 0)] [0] [] [] ?_ ?_ ?_ (.inl ⟨rfl, .inl rfl⟩) (fun _ => ?_) (by simp [tabG, go_sem])
  ·simp [go_sem]
  ·simp [go_sem, tckO, tckD, tckL, hTi]
  ·simp [go_sem, tckO, tckD, tckL]
  simp (disch := omega) [go_sem, tckO, tckD, tckL];refine zAf q5 [(0, some 0)] [0] [] [] ?_ ?_ ?_ (.inl ⟨rfl, .inl rfl⟩) (fun _ => ?_) (by simp [tabG, go_sem])
  ·simp [go_sem]
  ·simp [go_sem, tckO, tckD, tckL]
  ·simp [go_sem, tckO, tckD, tckL]
  simp (disch := omega) [go_sem, tckO, tckD, tckL];refine zAa q6 [] (by simp [go_sem]) (.inl rfl) (by simp [go_sem]) (fun _ => ?_) (by simp [tabG, go_sem])
  simp (disch := omega) [go_sem];refine ⟨.inl (by kernel_rfl), ?_⟩
  refine zAf q7 [(0, some 0)] [0] [] [] ?_ ?_ ?_ (.inl ⟨rfl, .inl rfl⟩) (fun _ => ?_) (by simp [tabG, go_sem])
  ·simp [go_sem]
  ·simp [go_sem, tckO, tckD, tckL]
  ·simp [go_sem, tckO, tckD, tckL]
  simp (disch := omega) [go_sem, tckO, tckD, tckL];refine zAa q8 [] (by simp [go_sem]) (.inl rfl) (by simp [go_sem]) (fun _ => ?_) (by simp [tabG, go_sem])
  simp (disch := omega) [go_sem];refine ⟨.inl (by kernel_rfl), ?_⟩
  refine zAa q9 [] (by simp [go_sem]) (.inl rfl) (by simp [go_sem]) (fun _ => ?_) (by simp [tabG, go_sem])
  simp (disch := omega) [go_sem];refine ⟨.inl (by kernel_rfl), ?_⟩
  refine zAf q10 [(0, some 0)] [0] [] [] ?_ ?_ ?_ (.inl ⟨rfl, .inl rfl⟩) (fun _ => ?_) (by simp [tabG, go_sem])
  ·simp [go_sem]
  ·simp [go_sem, tckO, tckD, tckL]
  ·simp [go_sem, tckL, cntO]
  simp (disch := omega) [go_sem, tckL, cntO];refine zAf q11 [(0, some 0), (1, some 1745), (2, some 1746), (3, some 1747)] [0, 1745, 1746, 1747] [] [] ?_ ?_ ?_ (.inl ⟨rfl, .inl rfl⟩) (fun _ => ?_) (by simp [tabG, go_sem])
  ·simp [go_sem]
  ·simp [go_sem, tckL, cntO]
  ·simp [go_sem, tckL, cntO]
  simp (disch := omega) [go_sem, tckL, cntO];refine zAa q12 [] (by simp [go_sem]) (.inl rfl) (by simp [go_sem]) (fun _ => ?_)
  simp (disch := omega) [go_sem];refine Le.mk [(0, some 0)] [0] ⟨rfl, rfl, rfl⟩ ?_ ?_ ?_ <;> simp [go_sem, m1, m2, m3, i1, i2, i3]
end
section
attribute [local go_sem] zAq zAi
theorem yPz (t : TckN) (hs : zAk t.s) (h : zBw t.s t.x) (he : t.i.eyes < 4294967296) : FnR Tryz.prog 23 [tckO t] [.ptr 0 1 0 0] [tckO (runT t)] (.tup []) tabG := by
 cases hl : t.i.lost with
 | true => exact xCv t hs h hl
 | false => exact xCw t hs h he hl
def zDe (s : Sit) (x : LocN) (i : InpN) : TckN := ⟨s, x, i, [], [], [], [], []⟩
noncomputable def lcT (s : Sit) (x : LocN) (i : InpN) : TckN := runT (zDe s x i)
noncomputable def lcK (s : Sit) (d : List UInt8) (l : List InpN) : Nat → LocN
 | 0 => zGl s d
 | k + 1 => (lcT s (lcK s d l k) (l.getD k inp0)).x
noncomputable def lcL (s : Sit) (d : List UInt8) (l : List InpN) (k : Nat) : List Int := (lcT s (lcK s d l k) (l.getD k inp0)).lights
noncomputable def zGs (s : Sit) (d : List UInt8) (l : List InpN) (k : Nat) : List (List Int) := (List.range k).map (lcL s d l)
noncomputable def zFw (s : Sit) (d : List UInt8) (l : List InpN) (k : Nat) : List Int := (List.range k).map fun j => (lcK s d l (j + 1)).rung.mode
theorem zWd {s : Sit} (hs : zAk s) {d : List UInt8} (hd : d.length ≤ 1048576) (l : List InpN) : ∀ k, zBw s (lcK s d l k)
 | 0 => yBw hs hd
 | k + 1 => xUx (t := zDe s (lcK s d l k) (l.getD k inp0)) hs (zWd hs hd l k)
theorem zZu (s : Sit) (d : List UInt8) (l : List InpN) (k : Nat) : (zGs s d l k).length = k := by simp [zGs]
theorem zTg (s : Sit) (d : List UInt8) (l : List InpN) (k : Nat) : (zFw s d l k).length = k := by simp [zFw]
theorem yLj (s : Sit) (d : List UInt8) (l : List InpN) (k : Nat) : ltss (zGs s d l (k + 1)) = ltss (zGs s d l k) ++ [.sl 1 (lts (lcL s d l k))] := by
 simp [zGs, List.range_succ, ltss]
theorem yNb (s : Sit) (d : List UInt8) (l : List InpN) (k : Nat) : lts (zFw s d l (k + 1)) = lts (zFw s d l k) ++ [.int .u8 (lcK s d l (k + 1)).rung.mode] := by
 simp [zFw, List.range_succ, lts]
noncomputable def rnF (s : Sit) (d : List UInt8) (l : List InpN) (k : Nat) : St :=
 ⟨[(27, .int .i64 k), (26, .int .i64 l.length), (25, .sl 7 (l.map inpV)), (9, .ptr 176 1 0 0), (7, .obj 2048 k), (6, .obj 2064 k), (3, .ptr 0 1 0 0)],
  [(0, ⟨.box, 29, 12, [sitV s]⟩), (176, ⟨.box, 61, 27, [locV (lcK s d l k)]⟩), (2048, ⟨.arr, 5, 1, lts (zFw s d l k)⟩), (2064, ⟨.arr, 30, 1, ltss (zGs s d l k)⟩)], 4096, [], 58, 0, tabG⟩
set_option maxHeartbeats 8000000 in
theorem yTm (s : Sit) (d : List UInt8) (l : List InpN) (hs : zAk s) (h2 : twoB d = true) (hd : d.length ≤ 1048576) (hl : l.length ≤ 4096) (he : ∀ i ∈ l, i.eyes < 4294967296) :
  FnD Tryz.prog 10 [sitV s, devV d, .sl 7 (l.map inpV)] (.tup [.sl 1 (ltss (zGs s d l l.length)), .sl 1 (lts (zFw s d l l.length)), .int .i64 0]) tabG := by
 have q1 := yTo s d hd hs h2
 have hpu := (⟨zBn s.groups, zBm s.phases, zBo s.eyes, zAr s.plans, zBk s.apart, zBl s.between⟩ : _ ∧ _ ∧ _ ∧ _ ∧ _ ∧ _)
 obtain ⟨hp1, hp2, hp3, hp4, hp5, hp6⟩ := hpu
 have hpi := zIy l
 have hsv := zAs s
 have hF : ∀ k, rnF s d l k = ⟨[(27, .int .i64 k), (26, .int .i64 l.length), (25, .sl 7 (l.map inpV)), (9, .ptr 176 1 0 0), (7, .obj 2048 k), (6, .obj 2064 k), (3, .ptr 0 1 0 0)],
  [(0, ⟨.box, 29, 12, [sitV s]⟩), (176, ⟨.box, 61, 27, [locV (lcK s d l k)]⟩), (2048, ⟨.arr, 5, 1, lts (zFw s d l k)⟩), (2064, ⟨.arr, 30, 1, ltss (zGs s d l k)⟩)], 4096, [], 58, 0, tabG⟩ := fun _ => rfl
 have hlv : ∀ x : LocN, locV x = .agg [.sl 1 (bts x.disk), .sl 3 (x.now.groups.map zBb), .int .i64 x.now.start, .bool x.now.flashed, .int .u8 x.rung.mode, .int .i64 x.rung.well, .bool x.rung.lat, .int .i64 x.sph, .int .i64 x.ssi, .bool x.link.any, .int .u32 x.link.last, .int .i64 x.link.age,
  .sl 1 (bts x.rest), .int .i64 x.told.cycle, .int .i64 x.told.offset, .sl 1 (ints x.told.splits), .int .i64 x.age, .sl 3 (x.puls.map pulV), .sl 5 (x.eyes.map zCo), .sl 5 (x.gaps.map gapV), .int .u32 x.calls, .int .i64 x.wrong, .int .i64 x.tick, .sl 1 (ints x.greens), .sl 1 (ints x.busy), .sl 1 (ints x.came), .int .u32 x.sent] := fun _ => rfl
 have h0 : zGl s d = lcK s d l 0 := rfl
 have hm0 : lts (zFw s d l 0) = [] := rfl
 have ht0 : ltss (zGs s d l 0) = [] := rfl
 have hok := zWd hs hd l
 rw [h0, hlv] at q1
 rw [hsv] at q1 ⊢
 unfold devV at q1 ⊢
 refine zAd mixed Tryz.func10 rfl rfl (by simp [Tryz.ntmps10]) fun hwf E => ?_
 clear hwf
 simp (disch := omega) [Tryz.ntmps10, go_sem]
 refine zAa q1 [] (by simp [go_sem]) (.inl rfl) (by simp [go_sem]) (fun _ => ?_) (by simp [tabG, go_sem])
 simp (disch := omega) [go_sem]
 refine zAc (fun b0 => ?_) (fun b0 => ?_) <;> simp at b0
 ·exact absurd b0 (by omega)
 ·simp (disch := omega) [go_sem];refine zAe mixed (rnF s d l) (fun k => k ≤ l.length) (fun k => l.length - k) 0 (by omega) ?_ ?_
  ·refine Le.mk [(0, some 0), (176, some 176), (2048, none), (2064, none)] [0, 176] ⟨rfl, rfl, rfl⟩ ?_ ?_ ?_ <;> simp [go_sem, rnF, hsv, hlv, hm0, ht0]
  ·intro k hk;rw [hF];have hml := zTg s d l k;have htl := zZu s d l k;have hml1 : (lts (zFw s d l k)).length = k := by rw [zKq]; exact hml
   have htl1 : (ltss (zGs s d l k)).length = k := by rw [zYh]; exact htl
   have hpm := zDd (zFw s d l k);have hpt := zOd (zGs s d l k);simp (disch := omega) [go_sem, hlv, hsv];refine zAc (fun c1 => ?_) (fun c1 => ?_) <;> simp at c1
   ·have hx : l.getD k inp0 = l[k] := by simp [c1]
    have q2 := yPz (zDe s (lcK s d l k) l[k]) hs (hok k) (he _ (List.getElem_mem c1));have e1 : runT (zDe s (lcK s d l k) l[k]) = lcT s (lcK s d l k) l[k] := rfl;have e2 : lcK s d l (k + 1) = (lcT s (lcK s d l k) l[k]).x := by rw [← hx]; rfl
    have e3 : lcL s d l k = (lcT s (lcK s d l k) l[k]).lights := by rw [← hx]; rfl
    have e4 : (lcT s (lcK s d l k) l[k]).s = s := (xUy (t := zDe s (lcK s d l k) l[k])).1;have m1 := yNb s d l k;have m2 := yLj s d l k;rw [e3] at m2;rw [e2] at m1;rw [e1] at q2;have hF1 := hF (k + 1);rw [e2] at hF1;have hiv : inpV l[k] = .agg [.sl 1 (bts l[k].bytes), .int .u32 l[k].eyes, .sl 1 (lts l[k].back), .bool l[k].lost, .int .i64 l[k].whole, .int .i64 l[k].torn, .bool l[k].rot] := rfl;generalize lcT s (lcK s d l k) l[k] = T at *;unfold zDe at q2;have b0 : bts ([] : List UInt8) = [] := rfl;have l0 : lts ([] : List Int) = [] := rfl;simp (disch := omega) [go_sem, hiv, c1];refine zAf q2 [(0, some 4240)] [4240] [] [] ?_ ?_ ?_ (.inl ⟨rfl, .inl rfl⟩) (fun _ => ?_) (by simp [tabG, go_sem])
    ·simp [go_sem]
    ·simp [go_sem, tckO, tckD, tckL, b0, l0]
    ·simp [go_sem, tckO, tckD, tckL]
    simp (disch := omega) [go_sem, hml1, htl1, tckO, tckD, tckL];refine ⟨⟨by omega, by omega⟩, by omega, .inl (by kernel_rfl), ?_⟩
    have hpm1 := zDd (zFw s d l (k + 1));have hpt1 := zOd (zGs s d l (k + 1));have hml2 := zTg s d l (k + 1);have htl2 := zZu s d l (k + 1);have hml3 : (lts (zFw s d l (k + 1))).length = k + 1 := by rw [zKq]; exact hml2
    have htl3 : (ltss (zGs s d l (k + 1))).length = k + 1 := by rw [zYh]; exact htl2
    refine zAb (k + 1) (by omega) (by omega) (Le.mk [(0, some 0), (176, some 176), (2048, some 2048), (2064, some 2064)] [0, 176, 2048, 2064] ⟨rfl, rfl, rfl⟩ ?_ ?_ ?_) <;> simp [go_sem, hpm, hpt, hlv, hF1, hsv, m1, m2]
   ·have hkk : k = l.length := by omega
    subst hkk;simp (disch := omega) [go_sem, hml1, htl1]
    skip
theorem yTl (s : Sit) (d : List UInt8) (l : List InpN) (hs : ¬ zAk s) : FnD Tryz.prog 10 [sitV s, devV d, .sl 7 (l.map inpV)] (.tup [.sl 1 (ltss []), .sl 1 (lts []), .int .i64 50]) tabG := by
 have q1 := yGb s d hs
 have hpi := zIy l
 have hsv := zAs s
 rw [hsv] at q1 ⊢
 unfold devV at q1 ⊢
 have hLl := zTk loc0
 have hl0 : locV loc0 = .agg (locL loc0) := rfl
 have hLn : (locL loc0).length = 27 := rfl
 rw [hl0] at q1
 generalize locL loc0 = L at *
 refine zAd mixed Tryz.func10 rfl rfl (by simp [Tryz.ntmps10]) fun hwf E => ?_
 clear hwf
 simp (disch := omega) [Tryz.ntmps10, go_sem]
 refine zAa q1 [] (by simp [go_sem]) (.inl rfl) (by simp [go_sem, hLl]) (fun _ => ?_) (by simp [tabG, go_sem])
 simp (disch := omega) [go_sem, hLn]
 simp [lts, ltss, go_sem]
theorem yTn (s : Sit) (d : List UInt8) (l : List InpN) (hs : zAk s) (h2 : twoB d = false) : FnD Tryz.prog 10 [sitV s, devV d, .sl 7 (l.map inpV)] (.tup [.sl 1 (ltss []), .sl 1 (lts []), .int .i64 8]) tabG := by
 have q1 := yGc s d hs h2
 have hpi := zIy l
 have hsv := zAs s
 rw [hsv] at q1 ⊢
 unfold devV at q1 ⊢
 have hLl := zTk loc0
 have hl0 : locV loc0 = .agg (locL loc0) := rfl
 have hLn : (locL loc0).length = 27 := rfl
 rw [hl0] at q1
 generalize locL loc0 = L at *
 refine zAd mixed Tryz.func10 rfl rfl (by simp [Tryz.ntmps10]) fun hwf E => ?_
 clear hwf
 simp (disch := omega) [Tryz.ntmps10, go_sem]
 refine zAa q1 [] (by simp [go_sem]) (.inl rfl) (by simp [go_sem, hLl]) (fun _ => ?_) (by simp [tabG, go_sem])
 simp (disch := omega) [go_sem, hLn]
 simp [lts, ltss, go_sem]
end
section
theorem yBm {t : TckN} : (zAv t).x.now = t.x.now ∧ (zAv t).x.rung = t.x.rung ∧ (zAv t).x.age = (zEm t).x.age ∧ (zAv t).x.rest = (zEm t).x.rest ∧ (zAv t).x.wrong = t.x.wrong ∧ (zAv t).x.told = (zEm t).x.told := by
 unfold zAv; split <;> exact ⟨rfl, rfl, rfl, rfl, rfl, rfl⟩
theorem xVo {t : TckN} (hs : zAk t.s) (h : zBw t.s t.x) : (goT t).x.now = zBj t.s t.x.now (goT t).lights ∧ zCj t.s t.x.now.groups t.x.now.start t.x.now.flashed (goT t).lights = 0 := by
 have h3 := yJh hs h
 have e := (yUf (t := t)).1
 have el := yGh hs h
 have en : (go3 t).x.now = t.x.now := (yHm (t := go2 t) (zCb (go1 t).x.disk)).2.2.2.1
 have n1 := yIq (t := go3 t) (by rw [e]; exact hs) (by rw [e]; exact h3) (by rw [e]; exact el)
 have n2 := zJr (t := go3 t) (by rw [e]; exact hs) (by rw [e]; exact h3) (by rw [e]; exact el)
 have nf := zPs (s := (go3 t).s) (by rw [e]; exact hs) (w := (go3 t).x.now) (by rw [e]; exact h3.now) (l := (go3 t).asks) (by rw [e]; exact el)
 rw [← n2] at nf
 have ts := zZx (t := zCc (go4 t))
 have hl : (goT t).lights = (admT (go3 t)).lights := ts.2.2.1
 have hn : (goT t).x.now = (nowT (admT (go3 t))).x.now := ts.2.2.2.2.1
 rw [hn, hl, n1, e, en]
 rw [e, en] at nf
 exact ⟨rfl, nf⟩
theorem xOs {t : TckN} (hs : zAk t.s) (h : zBw t.s t.x) : (runT t).x.now = zBj t.s t.x.now (runT t).lights ∧ zCj t.s t.x.now.groups t.x.now.start t.x.now.flashed (runT t).lights = 0 := by
 have hh := zLp h
 have he := (zMw (t := t)).1
 have hn := (yBm (t := t)).1
 rw [he] at hh
 unfold runT
 split
 ·have := yAa (t := zAv t) (by rw [he]; exact hs) (by rw [he]; exact hh.now.1)
  have e2 : (zOe (zAv t)).x.now = snxS (zAv t).s (zAv t).x.now (zFx (zAv t).s) := rfl;have e3 : (zOe (zAv t)).lights = zFx (zAv t).s := rfl;rw [e2, e3, this, he, hn];exact ⟨rfl, zTy _⟩
 ·have := xVo (t := zAv t) (by rw [he]; exact hs) (by rw [he]; exact hh)
  rw [he, hn] at this;exact this
section
variable {s : Sit} {d : List UInt8} {l : List InpN}
theorem yRg {t : TckN} (hl : t.i.lost = true) : runT t = zOe (zAv t) := by unfold runT; rw [if_pos hl]
theorem yAk {t : TckN} (hl : t.i.lost = false) : runT t = goT (zAv t) := by unfold runT; rw [if_neg (by simp [hl])]
theorem xQi {t : TckN} (hs : zAk t.s) (h : zBw t.s t.x) : (goT t).x.rung = zGw t.s t.x.rung (zFp (go1 t)) := by
 have ts := zZx (t := zCc (go4 t))
 have e1 : (goT t).x.rung = (go4 t).x.rung := ts.2.2.2.1
 have e2 : (go3 t).x.rung = (go2 t).x.rung := (yHm (t := go2 t) (zCb (go1 t).x.disk)).2.2.1
 rw [e1]
 show (go3 t).x.rung = _
 rw [e2]
 exact zRr hs (zWg h) (zFp (go1 t))
def zQu (r : List UInt8) : Prop := ∀ j, 1 ≤ j → r.getD j 0 ≠ 126
theorem yJa (b : List UInt8) (x : UInt8) : ∀ (k j : Nat), zRf b x k < (j : Int) → j < k → b.getD j 0 ≠ x
 | 0, j, _, h => absurd h (Nat.not_lt_zero j)
 | k + 1, j, h1, h2 => by
  unfold zRf at h1;split at h1
  ·omega
  ·rename_i h3;by_cases e : j = k
   ·subst e; exact h3
   ·exact yJa b x k j h1 (by omega)
theorem xEt (a : List UInt8) : zQu (yBo a) := by
 unfold yBo
 split
 ·rename_i h;intro j hj;have h1 := yJa a 126 a.length ((zGz a 126).toNat + j);have e : (a.drop (zGz a 126).toNat).getD j 0 = a.getD ((zGz a 126).toNat + j) 0 := by
   simp [List.getD, List.getElem?_drop]
  rw [e];by_cases hl : (zGz a 126).toNat + j < a.length
  ·exact h1 (by show zGz a 126 < _; omega) hl
  ·rw [show a.getD ((zGz a 126).toNat + j) 0 = 0 by simp [List.getD, List.getElem?_eq_none (by omega : a.length ≤ (zGz a 126).toNat + j)]]
   decide
 ·intro j _; simp
theorem yJo {b : List UInt8} (h : zQu b) : ∀ k, (fdK b k).msgs = [] ∧ (k = 0 → (fdK b k).begun = false)
 | 0 => ⟨rfl, fun _ => rfl⟩
 | k + 1 => by
  obtain ⟨h1, h2⟩ := yJo h k;refine ⟨?_, fun h => absurd h (by omega)⟩
  simp only [fdK, zWt];split
  ·rename_i hx;have hk : k = 0 := by
    apply Classical.byContradiction
    intro hne;exact h k (by omega) hx
   rw [h2 hk];simp only [Bool.false_and];split <;> simp [h1]
  ·split
   ·exact h1
   ·split
    ·exact h1
    ·exact h1
theorem yRb {b : List UInt8} (h : zQu b) : zPm b = [] := (yJo h _).1
theorem yBn {t : TckN} (hr : zQu t.x.rest) (hb : t.i.bytes.length = 0) : (zOl t).2 = false ∧ (zEm t).x.told = t.x.told := by
 have h0 : t.i.bytes = [] := by simpa using hb
 have hA : zCp t = t.x.rest := by unfold zCp; rw [h0]; simp
 have hM : zBv t = [] := by
  unfold zBv;rw [hA, yRb hr];unfold nxtT;split
  ·rfl
  ·rfl
 have hP : zOl t = (t.x.told, false) := by unfold zOl; rw [hM]; rfl
 exact ⟨by rw [hP], by show (zOl t).1 = _; rw [hP]⟩
def zLz (b : List Int) : Bool := b.all fun x => x == 0
def dnQ (l : List InpN) : Nat → Int
 | 0 => 0
 | k + 1 => if 0 < (l.getD k inp0).bytes.length then 0 else dnQ l k + 1
def dnW (s : Sit) (l : List InpN) : Nat → Int
 | 0 => 0
 | k + 1 => if (l.getD k inp0).lost = true ∨ (l.getD k inp0).back.length ≠ s.groups.length ∨ zLz (l.getD k inp0).back = false then 0 else dnW s l k + 1
def dnL (s : Sit) (l : List InpN) : Nat → Bool
 | 0 => false
 | k + 1 => if (l.getD k inp0).lost = true then false else dnL s l k || decide (s.feed ≤ dnW s l (k + 1))
theorem ySr {s : Sit} {w : SafN} (h : zVf s w) : ∀ x ∈ w.groups, 1 ≤ x.aspect ∧ x.aspect ≤ 4 := fun x hx => by
 have h1 := h.2 x hx
 unfold zPq at h1
 split at h1
 ·simp at h1; omega
 ·simp at h1; omega
theorem yKz {t : TckN} (hs : zAk t.s) (h : zBw t.s t.x) (h1 : t.i.back.length = t.s.groups.length) (h2 : zLz t.i.back = true) : zFd t = min (t.x.wrong + 1) 1048576 := by
 have e : zAm t.s = 0 := by unfold zAm; rw [if_pos hs]
 have hw := h.wrong
 have hg := (zFk h.now.1).1
 have hc : zDq t.s t.x.wrong = 0 := by unfold zDq; rw [e, if_neg (by simp), if_neg (by omega)]
 have hp := ySr h.now
 unfold zFd
 by_cases h3 : (zEn t.s (zBi t.x.now.groups) t.i.back).2 ≠ 0
 ·have : zJa t.s t.x.wrong (zBi t.x.now.groups) t.i.back = (0, (zEn t.s (zBi t.x.now.groups) t.i.back).2) := by
   unfold zJa; rw [if_neg (by simp [hc]), if_pos (.inl h3)]
  rw [this, if_pos h3];rfl
 ·have h4 : (zEn t.s (zBi t.x.now.groups) t.i.back).1 = true := by
   unfold zEn at h3 ⊢;split
   ·rename_i h5; rw [if_pos h5] at h3; exact absurd h5 h3
   ·rename_i h5;rw [if_neg h5] at h3;split
    ·rename_i h6; rw [if_pos h6] at h3; exact absurd h6.2 h3
    ·have h0 : 0 < t.s.groups.length := hs.shaped.1.1;show anyR _ _ = true
     refine zGf (k := 0) (by omega) ?_
     unfold wrQ;have hb0 : t.i.back[0]'(by omega) = 0 := by
      unfold zLz at h2;rw [List.all_eq_true] at h2;simpa using h2 _ (List.getElem_mem (show 0 < t.i.back.length by omega))
     have hs0 := hp _ (List.getElem_mem (show 0 < t.x.now.groups.length by omega))
     rw [zIx (show 0 < t.i.back.length by omega), hb0, zIx (show 0 < (zBi t.x.now.groups).length by rw [zDs]; omega)]
     simp only [zBi, List.getElem_map];simp; omega
  have : zJa t.s t.x.wrong (zBi t.x.now.groups) t.i.back = (addO t.x.wrong 1048576, 0) := by
   unfold zJa; rw [if_neg (by simp [hc]), if_neg (by rw [h4]; simp; exact Classical.not_not.1 h3)]
  rw [this, if_neg (by simp)]
  show addO t.x.wrong 1048576 = _
  unfold addO; split <;> omega
theorem xLy {t : TckN} : (zDf t).x.age = t.x.age ∧ (zDf t).x.wrong = t.x.wrong ∧ (zDf t).x.rest = t.x.rest ∧ (zDf t).x.told = t.x.told := by unfold zDf; split <;> exact ⟨rfl, rfl, rfl, rfl⟩
theorem ask_x {t : TckN} (k : KepN) : (askT t k).x.age = t.x.age ∧ (askT t k).x.wrong = t.x.wrong ∧ (askT t k).x.rest = t.x.rest ∧ (askT t k).x.told = t.x.told := by
 unfold askT; split
 ·exact ⟨rfl, rfl, rfl, rfl⟩
 ·split <;> exact ⟨rfl, rfl, rfl, rfl⟩
theorem go_x {t : TckN} : (goT t).x.age = t.x.age ∧ (goT t).x.wrong = zFd (go1 t) ∧ (goT t).x.rest = t.x.rest ∧ (goT t).x.told = t.x.told := by
 have h1 := xLy (t := zCc (go4 t))
 have h2 := ask_x (t := go2 t) (zCb (go1 t).x.disk)
 exact ⟨h1.1.trans h2.1, h1.2.1.trans h2.2.1, h1.2.2.1.trans h2.2.2.1, h1.2.2.2.trans h2.2.2.2⟩
theorem xBg {s : Sit} (hs : zAk s) : (1 ≤ s.watch ∧ s.watch ≤ 1048576) ∧ (1 ≤ s.feed ∧ s.feed ≤ 1048576) := by
 have h4 : zEc s = true := hs 4 (by decide)
 unfold zEc at h4
 simp [inN] at h4
 omega
structure DnOk (s : Sit) (l : List InpN) (k : Nat) (x : LocN) : Prop where
 quiet : min (dnQ l k) 1048576 ≤ x.age
 wrong : min (dnW s l k) 1048576 ≤ x.wrong
 lat : dnL s l k = true → x.rung.lat = true
 rest : zQu x.rest
theorem yNe {lat : Bool} {f : FacN} (h : f.fresh = false) : mayR lat f ≤ 2 := by
 unfold mayR
 split
 ·omega
 ·rw [if_neg (by simp [h])]
  split <;> omega
theorem yEf {s : Sit} {r : RunN} {f : FacN} (h : f.fresh = false) (hm : r.mode ≤ 3) : (zGw s r f).mode < 3 := by
 have h1 := yNe (lat := r.lat || !f.lights) h
 unfold zGw
 split
 ·simp only; omega
 ·split
  ·simp only; omega
  ·simp only; omega
theorem yQk (s : Sit) (r : RunN) (f : FacN) : (zGw s r f).lat = (r.lat || !f.lights) := by
 unfold zGw; split
 ·rfl
 ·split <;> rfl
set_option maxHeartbeats 1000000 in
theorem yTf (hs : zAk s) (hd : d.length ≤ 1048576) (k : Nat) (hi : DnOk s l k (lcK s d l k)) :
  DnOk s l (k + 1) (lcK s d l (k + 1)) ∧ ((l.getD k inp0).lost = false → (s.watch ≤ dnQ l (k + 1) → (lcK s d l (k + 1)).rung.mode < 3) ∧ (dnL s l (k + 1) = true → (lcK s d l (k + 1)).rung.mode = 0)) := by
 have hk := zWd hs hd l k
 have hk1 := zWd hs hd l (k + 1)
 obtain ⟨⟨w1, w2⟩, w3, w4⟩ := xBg hs
 obtain ⟨i1, i2, i3, i4⟩ := hi
 have q1 : dnQ l (k + 1) = if 0 < (l.getD k inp0).bytes.length then 0 else dnQ l k + 1 := rfl
 have q2 : dnW s l (k + 1) = if (l.getD k inp0).lost = true ∨ (l.getD k inp0).back.length ≠ s.groups.length ∨ zLz (l.getD k inp0).back = false then 0 else dnW s l k + 1 := rfl
 have q3 : dnL s l (k + 1) = if (l.getD k inp0).lost = true then false else dnL s l k || decide (s.feed ≤ dnW s l (k + 1)) := rfl
 cases hl : (l.getD k inp0).lost with
 | true =>
  have e : lcK s d l (k + 1) = (zOe (zAv (zDe s (lcK s d l k) (l.getD k inp0)))).x := by
   show (runT _).x = _
   rw [yRg hl]
  rw [hl, if_pos (.inl rfl)] at q2;rw [hl, if_pos rfl] at q3;refine ⟨⟨?_, ?_, fun h => (by rw [q3] at h; cases h), ?_⟩, fun h => by cases h⟩
  ·rw [e];show _ ≤ (1048576 : Int)
   omega
  ·rw [e, q2];show _ ≤ (0 : Int)
   omega
  ·rw [e];show zQu []
   intro j _; simp
 | false =>
  have e : lcK s d l (k + 1) = (goT (zAv (zDe s (lcK s d l k) (l.getD k inp0)))).x := by
   show (runT _).x = _
   rw [yAk hl]
  rw [hl, if_neg (by simp)] at q3
  have hsH := zMw (t := zDe s (lcK s d l k) (l.getD k inp0));have hn := yBm (t := zDe s (lcK s d l k) (l.getD k inp0));have hh := zLp (t := zDe s (lcK s d l k) (l.getD k inp0)) hk;have hno := fun hb => yBn (t := zDe s (lcK s d l k) (l.getD k inp0)) i4 hb
  have hage : (zEm (zDe s (lcK s d l k) (l.getD k inp0))).x.age = if (zOl (zDe s (lcK s d l k) (l.getD k inp0))).2 = true then 0 else zGa (lcK s d l k).age 1048576 := rfl
  have hrest : zQu (zEm (zDe s (lcK s d l k) (l.getD k inp0))).x.rest := xEt _;have hR := xQi (t := zAv (zDe s (lcK s d l k) (l.getD k inp0))) (by rw [hsH.1]; exact hs) hh
  have hx := go_x (t := zAv (zDe s (lcK s d l k) (l.getD k inp0)));have hk0 := hk.age;have hquiet : min (dnQ l (k + 1)) 1048576 ≤ (zAv (zDe s (lcK s d l k) (l.getD k inp0))).x.age := by
   rw [hn.2.2.1, hage, q1];by_cases hb : 0 < (l.getD k inp0).bytes.length
   ·rw [if_pos hb];have := hh.age;rw [hn.2.2.1, hage] at this;omega
   ·rw [if_neg hb, (hno (by show (l.getD k inp0).bytes.length = 0; omega)).1, if_neg (by simp)]
    unfold zGa; omega
  have hwr : min (dnW s l (k + 1)) 1048576 ≤ zFd (go1 (zAv (zDe s (lcK s d l k) (l.getD k inp0)))) := by
   have hg1 := zWg hh;have hin := zSc (t := go1 (zAv (zDe s (lcK s d l k) (l.getD k inp0)))) hg1.wrong;rw [q2];by_cases hc : (l.getD k inp0).lost = true ∨ (l.getD k inp0).back.length ≠ s.groups.length ∨ zLz (l.getD k inp0).back = false
   ·rw [if_pos hc]; omega
   ·rw [if_neg hc];have hi2 : (go1 (zAv (zDe s (lcK s d l k) (l.getD k inp0)))).i = l.getD k inp0 := hsH.2;have hs2 : (go1 (zAv (zDe s (lcK s d l k) (l.getD k inp0)))).s = s := hsH.1;have hw2 : (go1 (zAv (zDe s (lcK s d l k) (l.getD k inp0)))).x.wrong = (lcK s d l k).wrong := hn.2.2.2.2.1;have hlen : (l.getD k inp0).back.length = s.groups.length := by
     apply Classical.byContradiction; intro h; exact hc (.inr (.inl h))
    have hdk : zLz (l.getD k inp0).back = true := by
     cases h : zLz (l.getD k inp0).back
     ·exact absurd (.inr (.inr h)) hc
     ·rfl
    rw [hsH.1] at hg1;have := yKz (t := go1 (zAv (zDe s (lcK s d l k) (l.getD k inp0)))) (by rw [hs2]; exact hs) (by rw [hs2]; exact hg1) (by rw [hi2, hs2]; exact hlen) (by rw [hi2]; exact hdk)
    rw [this, hw2];omega
  have hLA : (zFp (go1 (zAv (zDe s (lcK s d l k) (l.getD k inp0))))).lights = !zKu s (zFd (go1 (zAv (zDe s (lcK s d l k) (l.getD k inp0))))) := by
   show (!zKu (zAv _).s _) = _
   rw [hsH.1]; rfl
  have hFR : (zFp (go1 (zAv (zDe s (lcK s d l k) (l.getD k inp0))))).fresh = (!yKw (zAv (zDe s (lcK s d l k) (l.getD k inp0))).x.told && decide ((zAv (zDe s (lcK s d l k) (l.getD k inp0))).x.age < s.watch)) := by
   show (!yKw (zAv _).x.told && decide ((zAv _).x.age < (zAv _).s.watch)) = _
   rw [hsH.1]; rfl
  have hlat : dnL s l (k + 1) = true → (lcK s d l (k + 1)).rung.lat = true := fun h => by
   rw [e, hR, yQk, hn.2.1, hLA];rw [q3] at h;rcases Bool.or_eq_true_iff.1 h with h | h
   ·have := i3 h;show ((lcK s d l k).rung.lat || _) = true
    rw [this]; rfl
   ·have h5 : s.feed ≤ dnW s l (k + 1) := by simpa using h
    have hwi := zSc (t := go1 (zAv (zDe s (lcK s d l k) (l.getD k inp0)))) (zWg hh).wrong;have e0 : zAm s = 0 := by unfold zAm; rw [if_pos hs]
    have h6 : s.feed ≤ zFd (go1 (zAv (zDe s (lcK s d l k) (l.getD k inp0)))) := by omega
    have : zKu s (zFd (go1 (zAv (zDe s (lcK s d l k) (l.getD k inp0))))) = true := by
     unfold zKu zDq;rw [e0, if_neg (by simp), if_neg (by omega), decide_eq_true h6]
     rfl
    rw [this]; simp
  refine ⟨⟨?_, ?_, hlat, ?_⟩, fun _ => ⟨fun h => ?_, fun h => (hk1.lat (hlat h)).1⟩⟩
  ·rw [e, hx.1]; exact hquiet
  ·rw [e, hx.2.1]; exact hwr
  ·rw [e, hx.2.2.1, hn.2.2.2.1]; exact hrest
  ·rw [e, hR];refine yEf ?_ (by rw [hn.2.1]; exact hk.mode.2)
   rw [hFR];simp only [Bool.and_eq_false_iff, decide_eq_false_iff_not]
   right
   omega
theorem xKj : DnOk s l 0 (lcK s d l 0) := ⟨by show min (0 : Int) _ ≤ 1048576; omega, by show min (0 : Int) _ ≤ 0; omega, (fun h => by cases h), (fun j _ => by show ([] : List UInt8).getD j 0 ≠ 126; simp)⟩
theorem yIz (hs : zAk s) (hd : d.length ≤ 1048576) : ∀ k, DnOk s l k (lcK s d l k)
 | 0 => xKj
 | k + 1 => (yTf hs hd k (yIz hs hd k)).1
end
end
section
def dT : List UInt8 := List.replicate 256 0
theorem zUf : dT.length = 256 := by simp [dT]
theorem half0 : zCi dT 0 = none := by
 have h : zKa (inB (zDi dT 2 0 2) (zDi dT 2 0 2).length) = some (0, 1) := by decide +kernel
 have e : dT.length / 64 / 2 = 2 := by rw [zUf]
 unfold zCi
 rw [e]
 unfold zPk yLt
 rw [h]
 rfl
theorem half1 : zCi dT 1 = none := by
 have h : zKa (inB (zDi dT 2 1 2) (zDi dT 2 1 2).length) = some (0, 1) := by decide +kernel
 have e : dT.length / 64 / 2 = 2 := by rw [zUf]
 unfold zCi
 rw [e]
 unfold zPk yLt
 rw [h]
 rfl
theorem yYz : zHj dT = 190 ∧ zCb dT = zJx := by
 have h1 : cntD dT = -1 := by unfold cntD; rw [half0, half1]; rfl
 have h2 : sltE dT = 0 := by unfold sltE blkE; rw [zUf]; rfl
 have h3 : zHj dT = 190 := by unfold zHj; rw [h2, h1]; rfl
 exact ⟨h3, by unfold zCb; rw [h3]; rfl⟩
theorem xXt : twoB dT = true := by unfold twoB blkM blkE; rw [zUf]; rfl
theorem dT_do : doL dT [] 0 0 = dT := by unfold doL doE chkK blkE; rw [zUf]; rfl
abbrev sT : Sit := zEw 1
theorem zRl : zAm sT = 0 := by unfold zAm; rw [if_pos zKf]
structure Qui (x : LocN) : Prop where
 disk : x.disk = dT
 rung : x.rung = ⟨1, 0, false⟩
 sph : x.sph = 0
 told : x.told = ⟨0, 0, []⟩
 rest : x.rest = []
 puls : x.puls = []
 eyes : x.eyes = []
 gaps : x.gaps = []
 calls : x.calls = 0
 wrong : x.wrong = 0
theorem xMo : Qui (zGl sT dT) ∧ (zGl sT dT).age = 1048576 ∧ (zGl sT dT).now = zHn sT := by
 refine ⟨⟨rfl, ?_, rfl, rfl, rfl, rfl, rfl, rfl, rfl, rfl⟩, rfl, rfl⟩
 show zIa (zCb dT).mode = _
 rw [yYz.2]; rfl
theorem xXr : zFq sT [] = 0 := by unfold zFq; rw [zRl]; rfl
theorem xDc {t : TckN} (hs : t.s = sT) (hx : zBw sT t.x) (hq : Qui t.x) (hw : t.writes = []) (hi : t.i.back = []) :
  Qui (goT t).x ∧ (goT t).lights = zCd sT t.x.now.groups t.x.now.start t.x.now.flashed [2, 1] := by
 have hk : ∀ {x : LocN}, zBw t.s x ↔ zBw sT x := fun {x} => by rw [hs]
 have ht := hk.2 hx
 have hsO : zAk t.s := by rw [hs]; exact zKf
 -- the zGj
 have d1 : (go1 t).x.disk = dT := by
  show doL t.x.disk t.writes t.writes.length 0 = dT
  rw [hq.disk, hw]; exact dT_do
 have p1 : (go1 t).x.puls = [] := by show seP (doT t) (doT t).x.puls.length = []; rw [show (doT t).x.puls = [] from hq.puls]; exact hq.puls
 have g1 : (go1 t).x.gaps = [] := by show seG (doT t) (doT t).x.puls.length = []; rw [show (doT t).x.puls = [] from hq.puls]; exact hq.gaps
 have e1 : (go1 t).x.eyes = [] := by
  show eyL (doT t).s (doT t).x.eyes (seU (doT t) (doT t).x.puls.length) = []
  rw [show (doT t).s = sT from hs, show (doT t).x.eyes = [] from hq.eyes]
  unfold eyL; rw [xXr]; rfl
 have c1 : (go1 t).x.calls = 0 := by
  show (zMg (doT t).s (doT t).x.calls (seE (doT t)) (seGr (doT t))).1 = 0
  have e2 : seE (doT t) = [] := e1;rw [e2, show (doT t).s = sT from hs, show (doT t).x.calls = 0 from hq.calls]
  have hgr : seGr (doT t) = 0 ∨ seGr (doT t) = -1 := by
   unfold seGr;split
   ·left; exact hq.sph
   ·right; rfl
  unfold zMg;rw [xXr, if_neg (by simp)]
  rcases hgr with h | h <;> rw [h] <;> decide +kernel
 have w1 : zFd (go1 t) = 0 := by
  have hb : zJa t.s t.x.wrong (zBi t.x.now.groups) t.i.back = (0, 0) := by
   rw [hi, hq.wrong];have hg := (zFk ht.now.1).1;have hp := ySr ht.now;have hl : zEe t.s (zBi t.x.now.groups) = 0 := by
    unfold zEe;rw [if_neg (by rw [zDs]; simp [hg]), if_neg]
    rw [Bool.not_eq_true, zDn];intro k hk;rw [zDs] at hk;unfold ltQ;rw [zIx (by rw [zDs]; exact hk)]
    have := hp _ (List.getElem_mem hk);simp [zBi]; omega
   have hwv : zEn t.s (zBi t.x.now.groups) [] = (false, 0) := by
    unfold zEn; rw [hl, if_neg (by simp), if_neg (by simp)]; rfl
   have hcE : zDq t.s 0 = 0 := by unfold zDq; rw [hs, zRl]; rfl
   unfold zJa;rw [hcE, hwv]; rfl
  show (if (zJa t.s t.x.wrong (zBi t.x.now.groups) t.i.back).2 ≠ 0 then _ else (zJa t.s t.x.wrong (zBi t.x.now.groups) t.i.back).1) = 0
  rw [hb]; rfl
 have hF : (zFp (go1 t)).lights = true ∧ (zFp (go1 t)).plan = false := by
  constructor
  ·show (!zKu t.s (zFd (go1 t))) = true
   rw [w1, hs];unfold zKu zDq;rw [zRl]; rfl
  ·show (!t.i.rot && decide (zHj (go1 t).x.disk = 0) && _) = false
   rw [d1, yYz.1]; simp
 have r2 : (go2 t).x.rung = ⟨1, 0, false⟩ := by
  have := zRr hsO (zWg ht) (zFp (go1 t));show yAx t.s t.x.rung (zFp (go1 t)) = _
  rw [show (go1 t).x.rung = t.x.rung from rfl] at this
  rw [this, hq.rung];unfold zGw mayR;rw [hF.1, hF.2];simp
 have q3 : askQ (go2 t) = (0, (askQ (go2 t)).2) := by
  have e : (askQ (go2 t)).1 = 0 := by
   unfold askQ seqP;rw [show (go2 t).s = sT from hs, show (go2 t).x.sph = 0 from hq.sph, show (go2 t).x.calls = 0 from c1]
   have ho : othN sT (0 : Int).toNat 0 = 0 := by decide +kernel
   split
   ·rfl
   ·unfold yPy;rw [ho];simp
  rw [← e]
 have a3 : (go3 t).asks = [2, 1] ∧ (go3 t).x.sph = 0 := by
  have e : go3 t = { go2 t with x := { (go2 t).x with sph := (askQ (go2 t)).1, ssi := (askQ (go2 t)).2 }, asks := zLf (go2 t).s (askQ (go2 t)).1 } := by
   show askT (go2 t) _ = _
   unfold askT;rw [r2]; rfl
  rw [e, q3, show (go2 t).s = sT from hs]
  refine ⟨?_, rfl⟩;show zLf sT 0 = [2, 1]
  unfold zLf tE zIp;rw [zRl];decide +kernel
 have h3 := yJh hsO ht
 have e3 := (yUf (t := t)).1
 have n2 := zJr (t := go3 t) (by rw [e3]; exact hsO) (by rw [e3]; exact h3) (by rw [e3]; exact yGh hsO ht)
 have en : (go3 t).x.now = t.x.now := (yHm (t := go2 t) (zCb (go1 t).x.disk)).2.2.2.1
 have ts := zZx (t := zCc (go4 t))
 have hl : (goT t).lights = (admT (go3 t)).lights := ts.2.2.1
 have tx := xLy (t := zCc (go4 t))
 have hx3 : (go3 t).x.disk = dT ∧ (go3 t).x.rung = ⟨1, 0, false⟩ ∧ (go3 t).x.told = ⟨0, 0, []⟩ ∧ (go3 t).x.rest = [] ∧ (go3 t).x.puls = [] ∧ (go3 t).x.eyes = [] ∧ (go3 t).x.gaps = [] ∧ (go3 t).x.calls = 0 ∧ (go3 t).x.wrong = 0 := by
  have e : go3 t = { go2 t with x := { (go2 t).x with sph := (askQ (go2 t)).1, ssi := (askQ (go2 t)).2 }, asks := zLf (go2 t).s (askQ (go2 t)).1 } := by
   show askT (go2 t) _ = _
   unfold askT;rw [r2]; rfl
  rw [e];exact ⟨d1, r2, hq.told, hq.rest, p1, e1, g1, c1, w1⟩
 obtain ⟨x1, x2, x3, x4, x5, x6, x7, x8, x9⟩ := hx3
 have tq : ∀ u : TckN, (zDf u).x.disk = u.x.disk ∧ (zDf u).x.sph = u.x.sph ∧ (zDf u).x.puls = u.x.puls ∧ (zDf u).x.eyes = u.x.eyes ∧ (zDf u).x.gaps = u.x.gaps ∧ (zDf u).x.calls = u.x.calls := fun u => by unfold zDf; split <;> exact ⟨rfl, rfl, rfl, rfl, rfl, rfl⟩
 obtain ⟨y1, y2, y3, y4, y5, y6⟩ := tq (zCc (go4 t))
 refine ⟨⟨y1.trans x1, ts.2.2.2.1.trans x2, y2.trans a3.2, tx.2.2.2.trans x3, tx.2.2.1.trans x4, y3.trans x5, y4.trans x6, y5.trans x7, y6.trans x8, tx.2.1.trans x9⟩, ?_⟩
 rw [hl, n2, a3.1, e3, en, hs]
theorem yNt {t : TckN} (hr : t.x.rest = []) (hb : t.i.bytes = []) : zAv t = zEm t ∧ (zEm t).x.told = t.x.told ∧ (zEm t).x.rest = [] := by
 have hro : zQu t.x.rest := by rw [hr]; intro j _; simp
 obtain ⟨h1, h2⟩ := yBn hro (by rw [hb]; rfl)
 refine ⟨by unfold zAv; rw [h1]; rfl, h2, ?_⟩
 show yBo (zCp t) = []
 unfold zCp
 rw [hr, hb]
 rfl
theorem yTu {x : LocN} {i : InpN} (hq : Qui x) (hb : i.bytes = []) : Qui (zAv (zDe sT x i)).x ∧ (zAv (zDe sT x i)).writes = [] ∧ (zAv (zDe sT x i)).x.now = x.now := by
 obtain ⟨h1, h2, h3⟩ := yNt (t := zDe sT x i) hq.rest hb
 rw [h1]
 exact ⟨⟨hq.disk, hq.rung, hq.sph, h2.trans hq.told, h3, hq.puls, hq.eyes, hq.gaps, hq.calls, hq.wrong⟩, rfl, rfl⟩
theorem zLi {x : LocN} (hx : zBw sT x) (hq : Qui x) : Qui (lcT sT x inp0).x ∧ (lcT sT x inp0).lights = zCd sT x.now.groups x.now.start x.now.flashed [2, 1] := by
 obtain ⟨q1, q2, q3⟩ := yTu (x := x) (i := inp0) hq rfl
 have hh := zLp (t := zDe sT x inp0) hx
 have he := zMw (t := zDe sT x inp0)
 have hg := xDc (t := zAv (zDe sT x inp0)) he.1 (by rw [he.1] at hh; exact hh) q1 q2 (by rw [he.2]; rfl)
 rw [q3] at hg
 unfold lcT
 rw [yAk (t := zDe sT x inp0) rfl]
 exact hg
theorem yGa {x : LocN} {i : InpN} (hx : zBw sT x) : (lcT sT x i).x.now = zBj sT x.now (lcT sT x i).lights := (xOs (t := zDe sT x i) zKf hx).1
theorem xCs : zHn sT = ⟨[⟨1, 1, 1048576⟩, ⟨1, 1, 1048576⟩], 2, false⟩ := by
 have : zPp sT = 2 := by decide +kernel
 unfold zHn
 rw [this]; rfl
theorem zWh : zGs sT dT [inp0, inp0, inp0, inp0] 4 = [[1, 1], [1, 1], [2, 1], [2, 1]] ∧ zFw sT dT [inp0, inp0, inp0, inp0] 4 = [1, 1, 1, 1] := by
 have hd : dT.length ≤ 1048576 := by rw [zUf]; decide
 have hok := zWd (s := sT) zKf hd [inp0, inp0, inp0, inp0]
 have s0 := xMo.1
 have s1 := zLi (hok 0) s0
 have s2 := zLi (hok 1) s1.1
 have s3 := zLi (hok 2) s2.1
 have s4 := zLi (hok 3) s3.1
 have n0 : (lcK sT dT [inp0, inp0, inp0, inp0] 0).now = ⟨[⟨1, 1, 1048576⟩, ⟨1, 1, 1048576⟩], 2, false⟩ := xMo.2.2.trans xCs
 have n1 := yGa (i := inp0) (hok 0)
 rw [s1.2, n0] at n1
 have l1 := s1.2
 rw [n0] at l1
 have e1 : (lcK sT dT [inp0, inp0, inp0, inp0] 1).now = zBj sT ⟨[⟨1, 1, 1048576⟩, ⟨1, 1, 1048576⟩], 2, false⟩ [1, 1] := n1
 have n2 := yGa (i := inp0) (hok 1)
 rw [s2.2, e1] at n2
 have l2 := s2.2
 rw [e1] at l2
 have e2 : (lcK sT dT [inp0, inp0, inp0, inp0] 2).now = zBj sT (zBj sT ⟨[⟨1, 1, 1048576⟩, ⟨1, 1, 1048576⟩], 2, false⟩ [1, 1]) [1, 1] := n2
 have n3 := yGa (i := inp0) (hok 2)
 rw [s3.2, e2] at n3
 have l3 := s3.2
 rw [e2] at l3
 have e3 : (lcK sT dT [inp0, inp0, inp0, inp0] 3).now = zBj sT (zBj sT (zBj sT ⟨[⟨1, 1, 1048576⟩, ⟨1, 1, 1048576⟩], 2, false⟩ [1, 1]) [1, 1]) [2, 1] := n3
 have l4 := s4.2
 rw [e3] at l4
 constructor
 ·show [_, _, _, _] = _
  refine congr (congrArg _ ?_) (congr (congrArg _ ?_) (congr (congrArg _ ?_) (congr (congrArg _ ?_) rfl)))
  ·exact l1.trans (by decide +kernel)
  ·exact l2.trans (by decide +kernel)
  ·exact l3.trans (by decide +kernel)
  ·exact l4.trans (by decide +kernel)
 ·show [_, _, _, _] = _
  have m : ∀ {x : LocN}, Qui x → x.rung.mode = 1 := fun h => by rw [h.rung]
  exact congr (congrArg _ (m s1.1)) (congr (congrArg _ (m s2.1)) (congr (congrArg _ (m s3.1)) (congr (congrArg _ (m s4.1)) rfl)))
end
section
attribute [local go_sem] zAq zAi
theorem yLh : FnD Tryz.prog 14 [] (sitV sT) := by
 refine zAd mixed Tryz.func14 rfl rfl (by simp [Tryz.ntmps14]) fun hwf E => ?_
 simp (disch := omega) [Tryz.ntmps14, go_sem]
 simp [zEw, sitV, grpV, phaV, sets, rows, ints, go_sem]
theorem yHl : FnD Tryz.prog 15 [] (devV dT) := by
 have h := yZn 256
 have hp : zAz (bts (List.replicate 256 0)) := zAg _
 unfold devV dT
 rw [h] at hp ⊢
 refine zAd mixed Tryz.func15 rfl rfl (by simp [Tryz.ntmps15]) fun hwf E => ?_
 have hRl : (List.replicate 256 (V.int IntKind.u8 0)).length = 256 := List.length_replicate
 generalize hR : List.replicate 256 (V.int IntKind.u8 0) = R at *
 simp (disch := omega) [Tryz.ntmps15, go_sem, hR, -List.reduceReplicate]
 omega
def letB (x : Int) : UInt8 := (#[68, 82, 71, 89, 70, 63] : Array UInt8).getD (if x < 5 then x else 5).toNat 0
def zXq (t : List (List Int)) : List UInt8 := t.flatten.map letB
def zJy (t : List (List Int)) (k j : Nat) : List UInt8 := zXq (t.take k) ++ ((tAt t k).take j).map letB
theorem yLk (t : List (List Int)) : zJy t 0 0 = [] := by simp [zJy, zXq]
theorem yQd (t : List (List Int)) : zJy t t.length 0 = zXq t := by simp [zJy]
theorem yLm {t : List (List Int)} {k : Nat} (h : k < t.length) : zJy t (k + 1) 0 = zJy t k (tAt t k).length := by
 have e : tAt t k = t[k] := by simp [tAt, h]
 unfold zJy zXq
 rw [e, List.take_succ_eq_append_getElem h, List.take_of_length_le (Nat.le_refl _)]
 simp only [List.flatten_append, List.map_append, List.flatten_cons, List.flatten_nil, List.append_nil, List.take_zero, List.map_nil]
theorem yLl {t : List (List Int)} {k j : Nat} (h : j < (tAt t k).length) : zJy t k (j + 1) = zJy t k j ++ [letB (lAt (tAt t k) j)] := by
 unfold zJy
 rw [List.take_succ_eq_append_getElem h, zIx h]
 simp only [List.map_append, List.map_cons, List.map_nil, List.append_assoc]
theorem yQc {t : List (List Int)} (ht : t.length ≤ 4096) (hl : ∀ l ∈ t, l.length ≤ 4096) {k j : Nat} : (zJy t k j).length ≤ 16781312 := by
 have h1 : ∀ r : List (List Int), (∀ l ∈ r, l.length ≤ 4096) → (zXq r).length ≤ r.length * 4096 := by
  intro r;induction r with
  | nil => simp [zXq]
  | cons a r ih =>
   intro h;have h2 := ih (fun l hl => h l (by simp [hl]))
   have h3 := h a (by simp)
   simp [zXq] at h2 ⊢;omega
 have h2 := h1 (t.take k) (fun l h => hl l (List.mem_of_mem_take h))
 have h3 : (tAt t k).length ≤ 4096 := by
  by_cases h : k < t.length
  ·rw [show tAt t k = t[k] by simp [tAt, h]]; exact hl _ (List.getElem_mem h)
  ·rw [show tAt t k = [] by simp [tAt, List.getElem?_eq_none (by omega : t.length ≤ k)]]; simp
 unfold zJy
 rw [List.length_append, List.length_map, List.length_take]
 rw [List.length_take] at h2
 omega
set_option maxHeartbeats 2000000 in
theorem yDw (t : List (List Int)) (ht : t.length ≤ 4096) (hl : ∀ l ∈ t, l.length ≤ 4096) (h0 : ∀ l ∈ t, ∀ x ∈ l, 0 ≤ x) : FnD Tryz.prog 16 [.sl 1 (ltss t)] (.str ⟨(zXq t).toArray⟩) := by
 have hb0 := yLk t
 have hb00 : bts ([] : List UInt8) = [] := rfl
 refine zAd mixed Tryz.func16 rfl rfl (by simp [Tryz.ntmps16]) fun hwf E => ?_
 clear hwf
 simp (disch := omega) [Tryz.ntmps16, go_sem]
 refine zAe mixed (fun k : Nat => ⟨[(4, .int .i64 k), (3, .obj 512 (zJy t k 0).length), (0, .sl 1 (ltss t))], [(512, ⟨.arr, 5, 1, bts (zJy t k 0)⟩)], 1024, [], 35, 0, []⟩) (fun k => k ≤ t.length) (fun k => t.length - k) 0 ?_ ?_ ?_
 ·omega
 ·refine Le.mk [(512, none)] [] ⟨rfl, rfl, rfl⟩ ?_ ?_ ?_ <;> simp [go_sem, hb0, hb00]
 ·intro k hk;simp (disch := omega) [go_sem];refine zAc (fun c1 => ?_) (fun c1 => ?_) <;> simp at c1
  ·have hn := nthT c1;have hg := getT c1;have hmem : tAt t k ∈ t := by rw [show tAt t k = t[k] by simp [tAt, c1]]; exact List.getElem_mem c1
   have hlk := hl _ hmem;have hnx := yLm c1;simp (disch := omega) [go_sem, c1];refine zAe mixed (fun j : Nat => ⟨[(5, .int .i64 j), (4, .int .i64 k), (3, .obj 512 (zJy t k j).length), (0, .sl 1 (ltss t))], [(512, ⟨.arr, 5, 1, bts (zJy t k j)⟩)], 4096, [], 35, 0, []⟩) (fun j => j ≤ (tAt t k).length) (fun j => (tAt t k).length - j) 0 ?_ ?_ ?_
   ·omega
   ·refine Le.mk [(512, some 512)] [512] ⟨rfl, rfl, rfl⟩ ?_ ?_ ?_ <;> simp [go_sem]
   ·intro j hj;simp (disch := omega) [go_sem, c1, hn];refine zAc (fun c2 => ?_) (fun c2 => ?_) <;> simp at c2
    ·have hm := nthL c2;have hm2 := getL c2;have hx0 := h0 _ hmem _ (by rw [zIx c2]; exact List.getElem_mem c2 : lAt (tAt t k) j ∈ tAt t k)
     have hL := yQc ht hl (k := k) (j := j);have hsu := yLl c2;have hbv : zKz { data := #[68, 82, 71, 89, 70, 63] } (if lAt (tAt t k) j < 5 then lAt (tAt t k) j else 5).toNat = (letB (lAt (tAt t k) j)).toNat := rfl
     have hba : bts (zJy t k j ++ [letB (lAt (tAt t k) j)]) = bts (zJy t k j) ++ [.int .u8 ((letB (lAt (tAt t k) j)).toNat : Nat)] := by simp [bts]
     simp (disch := omega) [go_sem, c1, hn, c2, hm];refine ⟨⟨by split <;> omega, by split <;> omega⟩, by omega, ?_⟩
     refine zAb (j + 1) (by omega) (by omega) (Le.mk [(512, some 512)] [512] ⟨rfl, rfl, rfl⟩ ?_ ?_ ?_) <;> simp [go_sem, hsu, hbv, hba]
    ·have hjj : j = (tAt t k).length := by omega
     subst hjj;simp (disch := omega) [go_sem];refine zAb (k + 1) (by omega) (by omega) (Le.mk [(512, some 512)] [512] ⟨rfl, rfl, rfl⟩ ?_ ?_ ?_) <;> simp [go_sem, hnx]
  ·have hkk : k = t.length := by omega
   subst hkk;simp (disch := omega) [go_sem, zPw];exact yQd t
end
section
attribute [local go_sem] zAq zAi
theorem yDg : FnD Tryz.prog 8 [] (.bool true) tabG := by
 have q1 := yLh
 have q2 := yHl
 have q3 := yTm sT dT [inp0, inp0, inp0, inp0] zKf xXt (by rw [zUf]; decide) (by decide) (by simp [inp0])
 have hl4 : [inp0, inp0, inp0, inp0].length = 4 := rfl
 rw [hl4, zWh.1, zWh.2] at q3
 have q4 := yDw [[1, 1], [1, 1], [2, 1], [2, 1]] (by decide) (by simp) (by simp)
 have hst := zRk sT
 have hdp := zAg dT
 have hsv := zAs sT
 generalize sitV sT = S at *
 generalize dT = D at *
 refine zAd mixed Tryz.func8 rfl rfl (by simp [Tryz.ntmps8]) fun hwf E => ?_
 clear hwf
 simp (disch := omega) [Tryz.ntmps8, go_sem]
 refine zAa q1 [] (by simp [go_sem]) (.inl rfl) (by simp [go_sem, hst]) (fun _ => ?_)
 simp (disch := omega) [go_sem]
 refine zAa q2 [] (by simp [go_sem]) (.inl rfl) (by simp [go_sem, devV]) (fun _ => ?_)
 simp (disch := omega) [go_sem, devV]
 have b0 : bts [] = [] := rfl
 have l0 : lts [] = [] := rfl
 have hin : [inp0, inp0, inp0, inp0].map inpV = [.agg [.sl 1 [], .int .u32 0, .sl 1 [], .bool false, .int .i64 0, .int .i64 0, .bool false], .agg [.sl 1 [], .int .u32 0, .sl 1 [], .bool false, .int .i64 0, .int .i64 0, .bool false], .agg [.sl 1 [], .int .u32 0, .sl 1 [], .bool false, .int .i64 0, .int .i64 0, .bool false], .agg [.sl 1 [], .int .u32 0, .sl 1 [], .bool false, .int .i64 0, .int .i64 0, .bool false]] := rfl
 rw [hin] at q3
 refine zCk q3 [48] [(48, ⟨.ro, 42, 7, [.agg [.sl 1 [], .int .u32 0, .sl 1 [], .bool false, .int .i64 0, .int .i64 0, .bool false], .agg [.sl 1 [], .int .u32 0, .sl 1 [], .bool false, .int .i64 0, .int .i64 0, .bool false], .agg [.sl 1 [], .int .u32 0, .sl 1 [], .bool false, .int .i64 0, .int .i64 0, .bool false], .agg [.sl 1 [], .int .u32 0, .sl 1 [], .bool false, .int .i64 0, .int .i64 0, .bool false]]⟩)] (by simp [go_sem, devV, hst]) (by simp [go_sem]) (by simp [go_sem]) (fun _ => ?_) (by simp [tabG, go_sem])
 simp (disch := omega) [go_sem]
 refine ⟨.inl (by kernel_rfl), ?_⟩
 rw [show zXq [[1, 1], [1, 1], [2, 1], [2, 1]] = [82, 82, 82, 82, 71, 82, 71, 82] by decide] at q4
 have hl1 : lts [1, 1, 1, 1] = [.int .u8 1, .int .u8 1, .int .u8 1, .int .u8 1] := rfl
 refine zAa q4 [] (by simp [go_sem, hl1]) (.inl rfl) (by simp [go_sem]) (fun _ => ?_)
 simp (disch := omega) [go_sem, strV, hl1]
def xPu (l : List InpN) : Nat := zRe l l.length
def zVn (s : Sit) (d : List UInt8) (l : List InpN) : Bool := !yBp s && decide (d.length ≤ 5000) && decide (l.length ≤ 200) && decide (xPu l ≤ 20000)
theorem yAc (s : Sit) (d : List UInt8) (l : List InpN) (h : ∀ i ∈ l, i.bytes.length ≤ 140737488355328 ∧ i.back.length ≤ 140737488355328) : FnD Tryz.prog 9 [sitV s, devV d, .sl 7 (l.map inpV)] (.bool (zVn s d l)) := by
 have q1 := yGg s
 have q2 := fun h2 => yFs l h2 h
 have hpi := zIy l
 have hsp := zRk s
 have hsv := zAs s
 have hB : zVn s d l = (!yBp s && decide (d.length ≤ 5000) && decide (l.length ≤ 200) && decide (xPu l ≤ 20000)) := rfl
 unfold xPu at hB
 generalize zVn s d l = B at *
 generalize yBp s = g at *
 generalize zRe l l.length = m at *
 rw [hsv] at q1 ⊢
 unfold devV
 cases g with
 | true =>
  subst hB;refine zAd mixed Tryz.func9 rfl rfl (by simp [Tryz.ntmps9]) fun hwf E => ?_
  clear hwf;simp (disch := omega) [Tryz.ntmps9, go_sem];refine zAa q1 [] (by simp [go_sem]) (.inl rfl) (by simp [go_sem]) (fun _ => ?_)
  simp (disch := omega) [go_sem]
 | false =>
  by_cases h5 : d.length ≤ 5000
  ·have i5 : decide ((d.length : Int) ≤ 5000) = true := by simp; omega
   by_cases h2 : l.length ≤ 200
   ·have i2 : decide ((l.length : Int) ≤ 200) = true := by simp; omega
    have q2 := q2 h2;subst hB;refine zAd mixed Tryz.func9 rfl rfl (by simp [Tryz.ntmps9]) fun hwf E => ?_
    clear hwf;simp (disch := omega) [Tryz.ntmps9, go_sem];refine zAa q1 [] (by simp [go_sem]) (.inl rfl) (by simp [go_sem]) (fun _ => ?_)
    simp (disch := omega) [go_sem, i5, i2];refine zAa q2 [] (by simp [go_sem]) (.inl rfl) (by simp [go_sem]) (fun _ => ?_)
    simp (disch := omega) [go_sem];simp [h5, h2];omega
   ·have i2 : decide ((l.length : Int) ≤ 200) = false := by simp; omega
    subst hB;refine zAd mixed Tryz.func9 rfl rfl (by simp [Tryz.ntmps9]) fun hwf E => ?_
    clear hwf;simp (disch := omega) [Tryz.ntmps9, go_sem];refine zAa q1 [] (by simp [go_sem]) (.inl rfl) (by simp [go_sem]) (fun _ => ?_)
    simp (disch := omega) [go_sem, i5, i2];simp [h2]
  ·have i5 : decide ((d.length : Int) ≤ 5000) = false := by simp; omega
   subst hB;refine zAd mixed Tryz.func9 rfl rfl (by simp [Tryz.ntmps9]) fun hwf E => ?_
   clear hwf;simp (disch := omega) [Tryz.ntmps9, go_sem];refine zAa q1 [] (by simp [go_sem]) (.inl rfl) (by simp [go_sem]) (fun _ => ?_)
   simp (disch := omega) [go_sem, i5];simp [h5]
theorem yGu (b : List Int) : FnD Tryz.prog 11 [.sl 1 (lts b)] (.bool (zLz b)) := by
 refine zAd mixed Tryz.func11 rfl rfl (by simp [Tryz.ntmps11]) fun hwf E => ?_
 simp (disch := omega) [go_sem] at hwf
 simp (disch := omega) [Tryz.ntmps11, go_sem]
 refine zAe mixed (fun k : Nat => ⟨[(3, .int .i64 k), (0, .sl 1 (lts b))], [], 1024, [], 15, 0, []⟩) (fun k => k ≤ b.length ∧ ∀ j, j < k → lAt b j = 0) (fun k => b.length - k) 0 ?_ ?_ ?_
 ·exact ⟨by omega, fun j hj => absurd hj (Nat.not_lt_zero j)⟩
 ·refine Le.mk [] [] ⟨rfl, rfl, rfl⟩ ?_ ?_ ?_ <;> simp [go_sem]
 ·rintro k ⟨hk, hz⟩
  simp (disch := omega) [go_sem];refine zAc (fun c1 => ?_) (fun c1 => ?_) <;> simp at c1
  ·have hm := nthL c1;have hm2 := getL c1;simp (disch := omega) [go_sem, c1, hm];refine zAc (fun c2 => ?_) (fun c2 => ?_) <;> simp at c2
   ·simp (disch := omega) [go_sem];cases hd : zLz b with
    | false => rfl
    | true =>
     exfalso
     unfold zLz at hd;rw [List.all_eq_true] at hd;have := hd _ (List.getElem_mem c1);rw [← zIx c1] at this;simp at this;exact c2 this
   ·have hz2 := zLv hz c2;simp (disch := omega) [go_sem];refine zAb (k + 1) (⟨by omega, hz2⟩) (by omega) (Le.mk [] [] ⟨rfl, rfl, rfl⟩ ?_ ?_ ?_) <;> simp [go_sem]
  ·have hkk : k = b.length := by omega
   subst hkk;simp (disch := omega) [go_sem];unfold zLz;rw [List.all_eq_true];intro x hx;obtain ⟨j, hj, rfl⟩ := List.getElem_of_mem hx;have := hz j hj;rw [zIx hj] at this;simp [this]
end
section
attribute [local go_sem] zAq zAi
def xUa (l : List InpN) : Prop := (∀ i ∈ l, i.bytes.length ≤ 140737488355328 ∧ i.back.length ≤ 140737488355328) ∧ ∀ i ∈ l, i.eyes < 4294967296
theorem yQn {s : Sit} {d : List UInt8} {l : List InpN} (h : zVn s d l = true) : d.length ≤ 5000 ∧ l.length ≤ 200 := by
 unfold zVn at h
 simp at h
 omega
theorem xEa {s : Sit} {d : List UInt8} {l : List InpN} {n k : Nat} (h : k < n) : lAt (zFw s d l n) k = (lcK s d l (k + 1)).rung.mode := by simp [lAt, zFw, h]
end
section
section
variable {m : Nat}
theorem zSn {xs : List V} (h : sh Tryz.prog (m + 2) 30 xs) : ∃ l, xs = [.sl 1 (u8s l)] ∧ l.length ≤ 140737488355328 := by
 rw [sh] at h
 simp only [Tryz.underlying30, yXf] at h
 obtain ⟨ys, rfl, hl, hy⟩ := h
 rw [show Tryz.prog.bytesOf 5 = 1 by kernel_rfl] at hl
 obtain ⟨l, rfl⟩ := zCy (fun n => V.int .u8 n) (fun y hy => xVe hy) hy
 exact ⟨l, rfl, by simpa using hl⟩
structure RawI where
 b : List Int
 e : Nat
 k : List Int
 lost : Bool
 w : Int
 t : Int
 rot : Bool
def rawV (i : RawI) : V := .agg [.sl 1 (u8s i.b), .int .u32 i.e, .sl 1 (u8s i.k), .bool i.lost, .int .i64 i.w, .int .i64 i.t, .bool i.rot]
def xLm (i : RawI) : Prop := i.b.length ≤ 140737488355328 ∧ i.k.length ≤ 140737488355328
theorem xPj {y : V} (h : one Tryz.prog (sh Tryz.prog (m + 3)) 42 y) : ∃ i : {i : RawI // xLm i}, y = rawV i.1 := by
 simp only [one, zAl, Tryz.underlying42, Option.map_some] at h
 obtain ⟨cs, rfl, h⟩ := h
 rw [sh] at h
 simp only [Tryz.underlying42, zGj] at h
 obtain ⟨_, _, rfl, h1, _, _, rfl, h2, _, _, rfl, h3, _, _, rfl, h4, _, _, rfl, h5, _, _, rfl, h6, _, _, rfl, h7, rfl⟩ := h
 obtain ⟨a1, rfl, b1⟩ := zSn h1
 obtain ⟨a2, rfl⟩ := yQt h2
 obtain ⟨a3, rfl, b3⟩ := zSn h3
 obtain ⟨a4, rfl⟩ := yEl h4
 obtain ⟨a5, rfl⟩ := zFa h5
 obtain ⟨a6, rfl⟩ := zFa h6
 obtain ⟨a7, rfl⟩ := yEl h7
 exact ⟨⟨⟨a1, a2, a3, a4, a5, a6, a7⟩, b1, b3⟩, rfl⟩
theorem xDs {y : V} (h : one Tryz.prog (sh Tryz.prog (m + 4)) 33 y) : ∃ l : List {i : RawI // xLm i}, y = .sl 7 (l.map fun i => rawV i.1) := by
 simp only [one, zAl, Tryz.underlying33, Option.map_some] at h
 rw [sh] at h
 simp only [Tryz.underlying33, yJu] at h
 obtain ⟨ys, hs, _, hy⟩ := h
 obtain ⟨l, rfl⟩ := zCy (fun i : {i : RawI // xLm i} => rawV i.1) (fun y hy => xPj hy) hy
 exact ⟨l, by simpa using hs⟩
theorem xPm {y : V} (h : one Tryz.prog (sh Tryz.prog (m + 3)) 32 y) : ∃ l, y = .agg [.sl 1 (u8s l)] := by
 simp only [one, zAl, Tryz.underlying32, Option.map_some] at h
 obtain ⟨cs, rfl, h⟩ := h
 rw [sh] at h
 simp only [Tryz.underlying32, zGj] at h
 obtain ⟨_, _, rfl, h1, rfl⟩ := h
 obtain ⟨a1, rfl, _⟩ := zSn h1
 exact ⟨a1, rfl⟩
end
theorem yRo : ∀ {l : List {i : RawI // xLm i}}, wfs (l.map fun i => rawV i.1) → ∃ l2 : List InpN, (l.map fun i => rawV i.1) = l2.map inpV ∧ xUa l2
 | [], _ => ⟨[], rfl, by simp [xUa]⟩
 | i :: l, h => by
  simp only [List.map_cons, wfs] at h;obtain ⟨l2, h1, h2, h3⟩ := yRo h.2;obtain ⟨⟨a1, a2, a3, a4, a5, a6, a7⟩, b1, b2⟩ := i;have hw := h.1;unfold rawV at hw;simp only [wfs, V.wf] at hw;obtain ⟨⟨_, w1⟩, w2, _⟩ := hw;have he : a2 < 4294967296 := by
   simp [go_sem] at w2;omega
  refine ⟨⟨a1.map fun n => UInt8.ofNat n.toNat, a2, a3, a4, a5, a6, a7⟩ :: l2, ?_, fun j hj => ?_, fun j hj => ?_⟩
  ·simp only [List.map_cons, h1]
   congr 1
   unfold rawV inpV;rw [yDv w1];rfl
  ·rcases List.mem_cons.1 hj with rfl | hj
   ·exact ⟨by simpa using b1, b2⟩
   ·exact h2 j hj
  ·rcases List.mem_cons.1 hj with rfl | hj
   ·exact he
   ·exact h3 j hj
end
end Go.Proofs.YtlgbdpabcbcmcaaGreatDoor
