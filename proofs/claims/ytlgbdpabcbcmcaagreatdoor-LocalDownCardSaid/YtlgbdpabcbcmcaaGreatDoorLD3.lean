/- Contracts and laws beneath the statement, in build order. -/
import Derived.Test.YtlgbdpabcbcmcaaGreatDoorLDAmCut
import Derived.Test.YtlgbdpabcbcmcaaGreatDoorLD2
set_option linter.unusedSimpArgs false
set_option linter.unusedVariables false
namespace Go.Proofs.YtlgbdpabcbcmcaaGreatDoor
open Go.AM Go.RowKit
set_option maxRecDepth 100000
section
attribute [local go_sem] zAq
structure KepN where
 gen : Int
 mode : Int
 plans : List Pln
def kepV (k : KepN) : V := .agg [.int .i64 k.gen, .int .u8 k.mode, .sl 3 (k.plans.map plnV)]
def kepI (k : KepN) : List UInt8 := zEa k.mode.toNat ++ zFv k.plans
def kepB (k : KepN) : List UInt8 := zEa (kepI k).length ++ kepI k
def kepE (k : KepN) (many : Int) : Int :=
 if many < 1 ∨ 32 < many then 2 else if k.gen < 1 ∨ 4611686018427387904 ≤ k.gen ∨ 3 < k.mode then 190
 else if zEo k.plans ≠ 0 then zEo k.plans else if 48 * many < (kepB k).length then 190 else 0
def padB (l : List UInt8) (n : Nat) : List UInt8 := l ++ List.replicate n 0
def blkI (gen : Nat) (l : List UInt8) (i : Nat) : List UInt8 := put8 gen ++ (l.drop (i * 48)).take 48 ++ put8 gen
def zNe (gen : Nat) (l : List UInt8) (m : Nat) : List (List UInt8) := (List.range m).map (blkI gen l)
def kepL (k : KepN) (many : Int) : List (List UInt8) := if kepE k many = 0 then zNe k.gen.toNat (padB (kepB k) (48 * many.toNat - (kepB k).length)) many.toNat else []
def btss (l : List (List UInt8)) : List V := l.map fun b => .sl 1 (bts b)
theorem zBt (l : List (List UInt8)) : zAz (btss l) := zBd _ (fun b => by simp [go_sem]) l
theorem zBp (l : List (List UInt8)) : (btss l).length = l.length := by simp [btss]
theorem zYd {l : List (List UInt8)} {k : Nat} (h : k < l.length) : nth (btss l) k = .sl 1 (bts l[k]) := by rw [btss, zBs h]
theorem yZn (n : Nat) : bts (List.replicate n 0) = List.replicate n (.int .u8 0) := by simp [bts]
theorem zVu : ∀ (l : List Pln), (∀ p ∈ l, PlnW p) → ((l.flatMap zXy).length : Nat) ≤ 11 * l.length
 | [], _ => by simp
 | p :: l, h => by
  have h1 := zVu l fun q hq => h q (by simp [hq])
  have h2 : p.splits.length ≤ 8 := (h p (by simp)).2.2.1.2
  simp only [List.flatMap_cons, List.length_append, List.length_cons];have : (zXy p).length = 3 + p.splits.length := by simp [zXy]; omega
  omega
theorem zVh (l : List Pln) : (zFv l).length ≤ 1100 := by
 unfold zFv
 split
 ·rename_i h;obtain ⟨h1, h2⟩ := yHu h;have h3 := zLj (zQe l);have h4 := zVu l h2;have h5 : (zQe l).length = 1 + (l.flatMap zXy).length := by simp [zQe]; omega
  omega
 ·simp
theorem xEm (k : KepN) : (kepI k).length ≤ 1111 ∧ (kepB k).length ≤ 1122 := by
 have h1 := zVh k.plans
 have h2 := (zHd 10 k.mode.toNat).2
 have h3 := (zHd 10 (kepI k).length).2
 have h4 : (kepI k).length = (zEa k.mode.toNat).length + (zFv k.plans).length := by simp [kepI]
 have h5 : (kepB k).length = (zEa (kepI k).length).length + (kepI k).length := by simp [kepB]
 unfold zEa at h4 h5
 omega
set_option maxHeartbeats 4000000 in
theorem zNd (k : KepN) (many : Int) : FnD Tryz.prog 146 [kepV k, .int .i64 many] (.tup [.sl 1 (btss (kepL k many)), .int .i64 (kepE k many)]) := by
 have hE : kepE k many = if many < 1 ∨ 32 < many then 2 else if k.gen < 1 ∨ 4611686018427387904 ≤ k.gen ∨ 3 < k.mode then 190
  else if zEo k.plans ≠ 0 then zEo k.plans else if 48 * many < (kepB k).length then 190 else 0 := rfl
 have hL : kepL k many = if kepE k many = 0 then zNe k.gen.toNat (padB (kepB k) (48 * many.toNat - (kepB k).length)) many.toNat else [] := rfl
 generalize kepL k many = r at *
 generalize kepE k many = e at *
 obtain ⟨hl1, hl2⟩ := xEm k
 have hI : kepI k = zEa k.mode.toNat ++ zFv k.plans := rfl
 have hB : kepB k = zEa (kepI k).length ++ kepI k := rfl
 have q1 := zPg k.plans
 have hwl := zVh k.plans
 obtain ⟨gen, mode, plans⟩ := k
 unfold kepV
 simp only at *
 generalize kepB ⟨gen, mode, plans⟩ = B at *
 generalize kepI ⟨gen, mode, plans⟩ = I at *
 refine xSb mixed Tryz.func146 rfl rfl (by simp [Tryz.ntmps146]) fun hwf E => ?_
 simp (disch := omega) [go_sem] at hwf
 refine zDy mixed ?_
 simp (disch := omega) [Tryz.ntmps146, go_sem]
 refine zDy mixed ?_
 simp (disch := omega) [go_sem]
 by_cases h1 : many < 1 ∨ 32 < many
 ·rw [if_pos h1] at hE;subst hE;rw [if_neg (by decide)] at hL
  subst hL;repeat' first
   | (refine zAc (fun hb => ?_) (fun hb => ?_) <;> simp at hb)
   | (refine zBu (fun hb => ?_) (fun hb => ?_) <;> (try simp only [hb]) <;> (try simp at hb) <;> try simp (disch := omega) [go_sem, hb, btss])
   | refine ⟨.inl (by kernel_rfl), ?_⟩
   | simp (disch := omega) [go_sem, btss]
  all_goals first | omega | (simp_all [btss]; done) | (simp_all [btss]; omega) | ((repeat' split) <;> first | omega | (simp_all [btss]; done) | (simp_all [btss]; omega)) | skip
 ·rw [if_neg h1] at hE;refine zAc (fun b1 => ?_) (fun b1 => ?_) <;> simp at b1
  ·exact absurd b1 (by omega)
  ·simp (disch := omega) [go_sem];refine zDy mixed ?_;simp (disch := omega) [go_sem];by_cases h2 : gen < 1 ∨ 4611686018427387904 ≤ gen ∨ 3 < mode
   ·rw [if_pos h2] at hE;subst hE;rw [if_neg (by decide)] at hL
    subst hL;refine zAc (fun b2 => ?_) (fun b2 => ?_) <;> simp at b2
    ·simp (disch := omega) [go_sem, btss]
    ·exact absurd b2 (by omega)
   ·rw [if_neg h2] at hE;refine zAc (fun b2 => ?_) (fun b2 => ?_) <;> simp at b2
    ·exact absurd b2 (by omega)
    ·obtain ⟨g, rfl⟩ := Int.eq_ofNat_of_zero_le (show 0 ≤ gen by omega)
     obtain ⟨m, rfl⟩ := Int.eq_ofNat_of_zero_le (show 0 ≤ many by omega)
     have hm32 : 1 ≤ m ∧ m ≤ 32 := by omega
     simp (disch := omega) [go_sem];refine zDy mixed ?_;simp (disch := omega) [go_sem];refine zAa q1 [] (by simp [go_sem]) (.inl rfl) (by simp [go_sem]) (fun hw1 => ?_)
     simp (disch := omega) [go_sem];refine zDy mixed ?_;simp (disch := omega) [go_sem];by_cases h3 : zEo plans ≠ 0
     ·rw [if_pos h3] at hE;subst hE;rw [if_neg h3] at hL;subst hL;refine zAc (fun b3 => ?_) (fun b3 => ?_) <;> simp at b3
      ·simp (disch := omega) [go_sem, btss]
      ·exact absurd b3 h3
     ·rw [if_neg h3] at hE;refine zAc (fun b3 => ?_) (fun b3 => ?_) <;> simp at b3
      ·exact absurd b3 h3
      ·obtain ⟨md, rfl⟩ := Int.eq_ofNat_of_zero_le (show 0 ≤ mode by simp [go_sem] at hwf; omega)
       have s1 := yAb md (by omega)
       have s2 := yAb I.length (by omega)
       have hw2 : IntKind.u64.wrap (md : Int) = md := w64 (by omega)
       have hpb := fun l => zAg l
       simp only [Int.toNat_natCast] at *;generalize zFv plans = W at *;have hIl : I.length = (zEa md).length + W.length := by rw [hI, List.length_append]
       have hBl : B.length = (zEa I.length).length + I.length := by rw [hB, List.length_append]
       simp (disch := omega) [go_sem];refine zDy mixed ?_;simp (disch := omega) [go_sem, hw2];refine zAf s1 [] [] [] [] ?_ ?_ ?_ (.inl ⟨rfl, .inl rfl⟩) (fun _ => ?_)
       iterate 3 (· simp [go_sem])
       simp (disch := omega) [go_sem];refine ⟨by omega, ?_⟩
       rw [← zCg, ← hI, ← hIl];have hw3 : IntKind.u64.wrap (I.length : Int) = I.length := w64 (by omega)
       refine zDy mixed ?_;simp (disch := omega) [go_sem, hw3];refine zAf s2 [] [] [] [] ?_ ?_ ?_ (.inl ⟨rfl, .inl rfl⟩) (fun _ => ?_)
       iterate 3 (· simp [go_sem])
       simp (disch := omega) [go_sem];refine ⟨by omega, ?_⟩
       rw [← zCg, ← hB, ← hBl];have hwm : IntKind.i64.wrap (48 * (m : Int)) = 48 * m := zDw (by omega) (by omega)
       refine zDy mixed ?_;simp (disch := omega) [go_sem, hwm];refine zAc (fun b4 => ?_) (fun b4 => ?_) <;> simp at b4
       ·rw [if_pos b4] at hE;subst hE;rw [if_neg (by decide)] at hL
        subst hL;simp (disch := omega) [go_sem, btss]
       ·rw [if_neg (by omega)] at hE
        subst hE;rw [if_pos rfl] at hL;simp (disch := omega) [go_sem];refine zGd (yZx (l1 := [_, _, _, _, _, _]) (l2 := [_]) rfl rfl ?_);simp (disch := omega) [go_sem, hwm];have hzl : ((48 * m - B.length : Nat) : Int) = 48 * m - B.length := by omega
        refine zVl (id := 672) (k := 48 * m - B.length) (ob := ⟨.arr, 5, 1, bts B⟩) rfl rfl (by simp [go_sem]) Tryz.underlying3 (by kernel_rfl) (by simp [go_sem]) (by simp [go_sem]) rfl rfl rfl (by simp [go_sem, hzl]) (by simp [zAq]; omega) ?_
        simp (disch := omega) [go_sem];have hpad : bts B ++ List.replicate (48 * m - B.length) (.int .u8 0) = bts (padB B (48 * m - B.length)) := by rw [padB, zCg, yZn]
        have hpl : (padB B (48 * m - B.length)).length = 48 * m := by simp [padB]; omega
        have hsum : B.length + (48 * m - B.length) = 48 * m := by omega
        rw [hpad];try simp only [zAq, hsum]
        generalize padB B (48 * m - B.length) = pad at *;have hg1 : IntKind.u64.wrap (g : Int) = g := w64 (by omega)
        have q3 := yRr g (by omega)
        have hp8 := xDe g;generalize hgp : put8 g = p8 at *;have hpp := zAg pad;have hbr : ∀ k, zNe g pad (k + 1) = zNe g pad k ++ [blkI g pad k] := fun k => by simp [zNe, List.range_succ]
        have hbl : ∀ k, (zNe g pad k).length = k := fun k => by simp [zNe]
        refine zAy ?_ mixed;simp (disch := omega) [go_sem, hg1];refine zAa q3 [] (by simp [go_sem]) (.inl rfl) (by simp [go_sem]) (fun _ => ?_)
        simp (disch := omega) [go_sem];refine zAe mixed (fun k : Nat => ⟨[(74, .int .i64 k), (73, .int .i64 m), (12, .obj 2032 k), (10, .sl 1 (bts p8)), (9, .obj 672 (48 * m))], [(2032, ⟨.arr, 30, 1, btss (zNe g pad k)⟩), (672, ⟨.arr, 5, 1, bts pad⟩)], 4096, [], 91, 0, []⟩) (fun k => k ≤ m) (fun k => m - k) 0 ?_ ?_ ?_
        ·omega
        ·refine Le.mk [(2032, none), (672, some 672)] [672] ⟨rfl, rfl, rfl⟩ ?_ ?_ ?_ <;> simp [go_sem, zNe, btss]
        ·intro k hk;have hb1 := hbl k;have hb2 := hbl (k + 1);have hbp := zBt (zNe g pad k);simp (disch := omega) [go_sem];refine zAc (fun h6 => ?_) (fun h6 => ?_) <;> simp at h6
         ·have hwk : IntKind.i64.wrap ((k : Int) * 48) = k * 48 := zDw (by omega) (by omega)
          have hkt : ((k : Int) * 48).toNat = k * 48 := by omega
          have q4 := join3 p8 ((pad.drop (k * 48)).take 48) p8 (by simp; omega)
          simp (disch := omega) [go_sem, hwk, hpl, hkt];refine ⟨⟨by omega, by omega, by omega⟩, ⟨by omega, by omega⟩, ?_⟩
          refine zHs q4 [4272, 672] ?_ ?_ (fun _ => ?_)
          ·simp (disch := omega) [go_sem, zBy, zDx, hpl];exact .inr ⟨by omega, zAt (zAg _)⟩
          ·simp (disch := omega) [go_sem]
          ·have hbs : btss (zNe g pad k) ++ [.sl 1 (bts (p8 ++ (List.take 48 (List.drop (k * 48) pad) ++ p8)))] = btss (zNe g pad (k + 1)) := by
            rw [hbr, btss, btss, List.map_append];simp [blkI, hgp]
           have hbq := zBt (zNe g pad (k + 1));simp (disch := omega) [go_sem, zBp, hb1];refine ⟨⟨by omega, by omega⟩, ?_⟩
           refine zAb (k + 1) (by omega) (by omega) (Le.mk [(2032, some 2032), (672, some 672)] [2032, 672] ⟨rfl, rfl, rfl⟩ ?_ ?_ ?_) <;> simp [go_sem, hbs, hbq]
         ·have hkm : k = m := by omega
          subst hkm;simp (disch := omega) [go_sem, hL];rw [zBp, hbl]
end
section
theorem zUi (l : List Seen) (hb : l.length ≤ 1048576) : FnR Tryz.prog 71 [] [.sl 3 (l.map zBb)] [⟨.arr, 127, 3, l.map zBb⟩] (.obj 0 l.length) := by
 have hp := zFb l
 refine zIz (fun hx => ?_) ?_
 ·have hl : l = [] := by simpa using hx
  subst hl;refine zAw mixed Tryz.func71 rfl rfl (by simp [Tryz.ntmps71]) (by simp) fun hwf E => ?_
  simp (disch := omega) [Tryz.ntmps71, go_sem];refine Le.mk [(0, none)] [] ⟨rfl, rfl, rfl⟩ ?_ ?_ ?_ <;> simp [go_sem]
 ·refine zAw mixed Tryz.func71 rfl rfl (by simp [Tryz.ntmps71]) (by simp) fun hwf E => ?_
  simp (disch := omega) [go_sem, List.length_map] at hwf;simp (disch := omega) [Tryz.ntmps71, go_sem, List.length_map];refine ⟨⟨by omega, by omega⟩, Le.mk [(0, some 64)] [64] ⟨rfl, rfl, rfl⟩ ?_ ?_ ?_⟩ <;> simp [go_sem, hp]
theorem yMk (τ : Nat → Nat) (l : List Seen) : rens τ (l.map zBb) = l.map zBb := zDg _ (zFb l)
attribute [go_sem] yMk
def bhK (s : Sit) (g : List Seen) (l : List Int) (k : Nat) : List Seen := (List.range g.length).map fun i => if i < k then zYe (sAt g i) (lAt l i) else sAt g i
theorem zUm (s : Sit) (g : List Seen) (l : List Int) (k : Nat) : (bhK s g l k).length = g.length := by simp [bhK]
theorem xKs (s : Sit) (g : List Seen) (l : List Int) : bhK s g l 0 = g := by
 apply List.ext_getElem (by simp [bhK])
 intro i h1 h2
 simp [bhK, sAt, h2]
theorem xMs {s : Sit} {g : List Seen} {l : List Int} {k : Nat} (h : k < g.length) : sAt (bhK s g l k) k = sAt g k := by simp [bhK, sAt, h]
theorem xTn {s : Sit} {g : List Seen} {l : List Int} {k : Nat} (h : k < g.length) : ((bhK s g l k).map zBb).set k (zBb (zYe (sAt g k) (lAt l k))) = (bhK s g l (k + 1)).map zBb := by
 apply List.ext_getElem (by simp [bhK])
 intro i h1 h2
 simp only [bhK, List.getElem_set, List.getElem_map, List.getElem_range]
 by_cases e : k = i
 ·subst e; simp
 ·rw [if_neg e];by_cases e2 : i < k
  ·rw [if_pos e2, if_pos (by omega)]
  ·rw [if_neg e2, if_neg (by omega)]
theorem yUd {s : Sit} (hs : Shp s) {a : Nat} (ha : a < s.groups.length) {m : Int} (hm : 0 ≤ m ∧ m ≤ 1048576) : ∀ k, k ≤ s.groups.length → 0 ≤ grK2 s a m k ∧ grK2 s a m k ≤ 1048576
 | 0, _ => hm
 | k + 1, hk => by
  have ih := yUd hs ha hm k (by omega)
  have hb := hs.bt a k ha (by omega)
  have h2 := xPt (grK2 s a m k) (betw s a k);have e : grK2 s a m (k + 1) = if isAp s a k = true then maxI (grK2 s a m k) (betw s a k) else grK2 s a m k := rfl
  rw [e];split <;> omega
theorem xMk {s : Sit} (hs : Shp s) : ∀ k, k ≤ s.groups.length → 0 ≤ grK s k ∧ grK s k ≤ 1048576
 | 0, _ => ⟨Int.le_refl 0, by show (0 : Int) ≤ _; decide⟩
 | k + 1, hk => yUd hs (by omega) (xMk hs k (by omega)) _ (by omega)
theorem zYo {s : Sit} (hs : Shp s) : 0 ≤ zPp s ∧ zPp s ≤ 1048576 := xMk hs _ (by omega)
def bhG (s : Sit) (g : List Seen) (l : List Int) : List Seen := bhK s g l g.length
def bhT (s : Sit) (st : Int) (fl : Bool) (l : List Int) : Int := if zDp l = true then zPp s else if fl = true then maxI 0 (zPp s - 1) else maxI 0 (st - 1)
def zBj (s : Sit) (w : SafN) (l : List Int) : SafN := ⟨bhG s w.groups l, bhT s w.start w.flashed l, zDp l⟩
set_option maxHeartbeats 4000000 in
theorem yHh (s : Sit) (g : List Seen) (st : Int) (fl : Bool) (l : List Int) (hs : Shp s) (hg : g.length = s.groups.length) (hl : l.length = s.groups.length) (hst : 0 ≤ st ∧ st ≤ 1048576) : FnD Tryz.prog 29 [sitV s, safV ⟨g, st, fl⟩, .sl 1 (lts l)] (safV (zBj s ⟨g, st, fl⟩ l)) := by
 have hsv := zAs s
 have h16 := hs.g16
 have hz := zYo hs
 have q1 := zUi g (by omega)
 have q2 := zMy l
 have q3 := zOm s hs
 have hbt : bhT s st fl l = if zDp l = true then zPp s else if fl = true then maxI 0 (zPp s - 1) else maxI 0 (st - 1) := rfl
 have hpl : zAz ((bhG s g l).map zBb) := zFb _
 rw [hsv] at q3 ⊢
 unfold zBj safV
 simp only
 rw [hbt]
 generalize zDp l = f at *
 generalize zPp s = z at *
 clear hbt
 refine zAd mixed Tryz.func29 rfl rfl (by simp [Tryz.ntmps29]) fun hwf E => ?_
 clear hwf
 simp (disch := omega) [Tryz.ntmps29, go_sem]
 refine zAf q1 [] [] [] [] ?_ ?_ ?_ (.inl ⟨rfl, .inl rfl⟩) (fun _ => ?_)
 iterate 3 (· simp [go_sem])
 simp (disch := omega) [go_sem]
 refine zAa q2 [] (by simp [go_sem]) (.inl rfl) (by simp [go_sem]) (fun _ => ?_)
 simp (disch := omega) [go_sem]
 refine ⟨.inl (by kernel_rfl), ?_⟩
 refine zAe mixed (fun k : Nat => siS s [(23, .int .i64 k), (22, .int .i64 g.length), (21, .obj 80 g.length), (7, .ptr 208 1 0 0), (6, .ptr 32 1 0 0), (4, .ptr 16 1 0 0), (3, .ptr 0 1 0 0), (2, .sl 1 (lts l))] [(208, ⟨.box, 47, 3, [.agg [.obj 80 g.length, .int .i64 (maxI 0 (st - 1)), .bool f]]⟩), (80, ⟨.arr, 127, 3, (bhK s g l k).map zBb⟩), (32, ⟨.box, 47, 3, [.agg [.nilS, .int .i64 0, .bool false]]⟩), (16, safB g st fl)] 1024 59) (fun k => k ≤ g.length) (fun k => g.length - k) 0 ?_ ?_ ?_
 ·omega
 ·rw [xKs];refine Le.mk [(0, some 0), (16, some 16), (32, some 32), (80, some 80), (208, some 208)] [0, 16, 32, 80, 208] ⟨rfl, rfl, rfl⟩ ?_ ?_ ?_ <;> simp [go_sem, siS, sitV, safB, maxI]
 ·intro k hk;have e1 := zUm s g l k;simp (disch := omega) [go_sem, siS, sitV, safB];refine zAc (fun h => ?_) (fun h => ?_) <;> simp at h
  ·have hkl : k < l.length := by omega
   have hkg : k < s.groups.length := by omega
   have hm := nthL hkl;have hm2 := getL hkl;have hgn := nthG hkg;have hn := nthS (l := bhK s g l k) (k := k) (by rw [e1]; exact h)
   rw [xMs h] at hn;have q6 := yNa (gAt s k) (sAt g k) (lAt l k);have e2 := xTn (s := s) (l := l) h;have e3 := zUm s g l (k + 1);simp only [zBb, grpV] at q6;simp (disch := omega) [go_sem, hn, h, hm, hkl, hkg, hgn, zBb, grpV, e1];have hb : ∀ h', (bhK s g l k)[k]'h' = sAt g k := fun h' => by rw [← xMs h]; exact (yIe h').symm
   have hse : V.agg [.int .u8 (zYe (sAt g k) (lAt l k)).aspect, .int .i64 (zYe (sAt g k) (lAt l k)).since, .int .i64 (zYe (sAt g k) (lAt l k)).ended] = zBb (zYe (sAt g k) (lAt l k)) := rfl;refine zAa q6 [] (by simp [go_sem]) (.inl rfl) (by simp [go_sem]) (fun _ => ?_)
   simp (disch := omega) [go_sem];simp (disch := omega) [go_sem, hb, h, e1, zBb];refine ⟨.inl (by kernel_rfl), ?_⟩
   rw [hse, e2];refine zAb (k + 1) (by omega) (by omega) (Le.mk [(0, some 0), (16, some 16), (32, some 32), (80, some 80), (208, some 208)] [0, 16, 32, 80, 208] ⟨rfl, rfl, rfl⟩ ?_ ?_ ?_) <;> simp [go_sem]
  ·have hkk : k = g.length := by omega
   subst hkk;have hG : bhK s g l g.length = bhG s g l := rfl;have hGl : (bhG s g l).length = g.length := zUm s g l _;rw [hG] at *;simp (disch := omega) [go_sem];refine zAc (fun h5 => ?_) (fun h5 => ?_)
   ·subst h5;simp (disch := omega) [go_sem];refine zAa q3 [] (by simp [go_sem]) (.inl rfl) (by simp [go_sem]) (fun _ => ?_)
    simp (disch := omega) [go_sem];exact hGl.symm
   ·subst h5;simp (disch := omega) [go_sem];refine zAc (fun h6 => ?_) (fun h6 => ?_)
    ·subst h6;simp (disch := omega) [go_sem];refine zAa q3 [] (by simp [go_sem]) (.inl rfl) (by simp [go_sem]) (fun _ => ?_)
     simp (disch := omega) [go_sem];exact ⟨hGl.symm, by unfold maxI; split <;> split <;> omega⟩
    ·subst h6;simp (disch := omega) [go_sem];exact hGl.symm
def saf0 : SafN := ⟨[], 0, false⟩
noncomputable def zHz (s : Sit) (w : SafN) (l : List Int) : V :=
 if zAm s ≠ 0 then .tup [safV saf0, .int .u8 0, .int .i64 (zAm s)]
 else if mayS s w = false then .tup [safV saf0, .int .u8 0, .int .i64 8]
 else if zCj s w.groups w.start w.flashed l ≠ 0 then .tup [safV w, .int .u8 (zCj s w.groups w.start w.flashed l), .int .i64 0]
 else .tup [safV (zBj s w l), .int .u8 0, .int .i64 0]
theorem zWu {s : Sit} {g : List Seen} {st : Int} {fl : Bool} {l : List Int} (h : zCj s g st fl l = 0) : l.length = s.groups.length := by
 by_cases e : l.length = s.groups.length
 ·exact e
 ·unfold zCj at h; rw [if_pos e] at h; exact absurd h (by decide)
theorem zFk {s : Sit} {w : SafN} (h : mayS s w = true) : w.groups.length = s.groups.length ∧ 0 ≤ w.start ∧ w.start ≤ 1048576 := by
 unfold mayS at h
 simp only [Bool.and_eq_true, beq_iff_eq, decide_eq_true_eq] at h
 exact ⟨h.1.1.1, h.1.1.2, h.1.2⟩
set_option maxHeartbeats 4000000 in
theorem zWw (s : Sit) (w : SafN) (l : List Int) (hw : w.groups.length ≤ 1048576) : FnD Tryz.prog 46 [sitV s, safV w, .sl 1 (lts l)] (zHz s w l) tabG := by
 have hsv := zAs s
 have qc := zCe s
 by_cases h : zAk s
 ·have hs := zMc h;have e : zAm s = 0 := by unfold zAm; rw [if_pos h]
  rw [e] at qc;have qm := yUp s w hs hw;have hv : mayS s w = false → zHz s w l = .tup [safV saf0, .int .u8 0, .int .i64 8] := fun h => by unfold zHz; rw [if_neg (by rw [e]; simp), if_pos h]
  have hv2 : mayS s w = true → zCj s w.groups w.start w.flashed l ≠ 0 → zHz s w l = .tup [safV w, .int .u8 (zCj s w.groups w.start w.flashed l), .int .i64 0] := fun h h2 => by unfold zHz; rw [if_neg (by rw [e]; simp), if_neg (by rw [h]; simp), if_pos h2]
  have hv3 : mayS s w = true → zCj s w.groups w.start w.flashed l = 0 → zHz s w l = .tup [safV (zBj s w l), .int .u8 0, .int .i64 0] := fun h h2 => by unfold zHz; rw [if_neg (by rw [e]; simp), if_neg (by rw [h]; simp), if_neg (by rw [h2]; simp)]
  have qf := fun h1 => yOa s w.groups w.start w.flashed l hs h1
  have qb := fun h1 h2 h3 => yHh s w.groups w.start w.flashed l hs h1 h2 h3
  have qk := zUi w.groups hw;have hlen := fun h => zFk (s := s) (w := w) h
  have hfl := fun h => zWu (s := s) (g := w.groups) (st := w.start) (fl := w.flashed) (l := l) h
  have hbw := yRc (zBj s w l);obtain ⟨g, st, fl⟩ := w;simp only at *;generalize zHz s ⟨g, st, fl⟩ l = res at *;generalize hmm : mayS s ⟨g, st, fl⟩ = mm at *;generalize hff : zCj s g st fl l = ff at *;have hbv : safV (zBj s ⟨g, st, fl⟩ l) = .agg [.sl 3 ((zBj s ⟨g, st, fl⟩ l).groups.map zBb), .int .i64 (zBj s ⟨g, st, fl⟩ l).start, .bool (zBj s ⟨g, st, fl⟩ l).flashed] := rfl;rw [hbv] at qb hv3;generalize zBj s ⟨g, st, fl⟩ l = bs at *;rw [hsv] at qc qm qf qb ⊢;unfold safV saf0 at *;refine zAd mixed Tryz.func46 rfl rfl (by simp [Tryz.ntmps46]) fun hwf E => ?_
  clear hwf;simp (disch := omega) [Tryz.ntmps46, go_sem];refine zAa qc [] (by simp [go_sem]) (.inl rfl) (by simp [go_sem]) (fun _ => ?_) (by simp [tabG, go_sem])
  simp (disch := omega) [go_sem];refine zAj qm [] (by simp [go_sem]) (fun h1 => ?_) (fun h1 => ?_) <;> try simp [inN] at h1
  ·subst h1;obtain ⟨l1, l2, l3⟩ := hlen rfl;simp (disch := omega) [go_sem];refine zAa (qf l1) [] (by simp [go_sem]) (.inl rfl) (by simp [go_sem]) (fun _ => ?_)
   simp (disch := omega) [go_sem];refine zAc (fun h2 => ?_) (fun h2 => ?_) <;> simp at h2
   ·rw [hv2 rfl h2];simp (disch := omega) [go_sem];refine zAf qk [] [] [] [] ?_ ?_ ?_ (.inl ⟨rfl, .inl rfl⟩) (fun _ => ?_)
    iterate 3 (· simp [go_sem])
    simp (disch := omega) [go_sem];exact zAt (by simp [go_sem])
   ·rw [hv3 rfl h2];simp (disch := omega) [go_sem];refine zAa (qb l1 (hfl h2) ⟨l2, l3⟩) [] (by simp [go_sem]) (.inl rfl) (by simp [go_sem]) (fun _ => ?_)
    simp (disch := omega) [go_sem]
  ·subst h1;rw [hv rfl];simp (disch := omega) [go_sem]
 ·have e : zAm s = 50 := by unfold zAm; rw [if_neg h]
  rw [e] at qc;have hv : zHz s w l = .tup [safV saf0, .int .u8 0, .int .i64 50] := by unfold zHz; rw [if_pos (by rw [e]; decide), e]
  rw [hv];unfold safV saf0 sitV at *;refine zAd mixed Tryz.func46 rfl rfl (by simp [Tryz.ntmps46]) fun hwf E => ?_
  clear hwf;simp (disch := omega) [Tryz.ntmps46, go_sem];refine zAa qc [] (by simp [go_sem]) (.inl rfl) (by simp [go_sem]) (fun _ => ?_) (by simp [tabG, go_sem])
  simp (disch := omega) [go_sem]
def ltss (t : List (List Int)) : List V := t.map fun l => .sl 1 (lts l)
theorem zOd (t : List (List Int)) : zAz (ltss t) := zBd _ (fun c => by simp [go_sem]) t
theorem zYh (t : List (List Int)) : (ltss t).length = t.length := by simp [ltss]
attribute [go_sem] zOd zYh
def tAt (t : List (List Int)) (k : Nat) : List Int := t[k]?.getD []
theorem nthT {t : List (List Int)} {k : Nat} (h : k < t.length) : nth (ltss t) k = .sl 1 (lts (tAt t k)) := by
 rw [ltss, zBs h]; simp [tAt, h]
theorem getT {t : List (List Int)} {k : Nat} (h : k < t.length) : ∀ h', (ltss t)[k]'h' = .sl 1 (lts (tAt t k)) := fun h' => by rw [← nthT h, zQg h']
theorem yZu {s : Sit} {w : SafN} {l : List Int} (hs : Shp s) (h : w.groups.length = s.groups.length ∧ 0 ≤ w.start ∧ w.start ≤ 1048576) : (zBj s w l).groups.length = s.groups.length ∧ 0 ≤ (zBj s w l).start ∧ (zBj s w l).start ≤ 1048576 := by
 have hz := zYo hs
 obtain ⟨h1, h2, h3⟩ := h
 refine ⟨by rw [← h1]; exact zUm s w.groups l _, ?_⟩
 show 0 ≤ bhT s w.start w.flashed l ∧ bhT s w.start w.flashed l ≤ 1048576
 unfold bhT maxI
 (repeat' split) <;> omega
end
section
structure RunN where
 mode : Int
 well : Int
 lat : Bool
structure FacN where
 fresh : Bool
 plan : Bool
 eyes : Bool
 lights : Bool
def runV (r : RunN) : V := .agg [.int .u8 r.mode, .int .i64 r.well, .bool r.lat]
def facV (f : FacN) : V := .agg [.bool f.fresh, .bool f.plan, .bool f.eyes, .bool f.lights]
def mayR (lat : Bool) (f : FacN) : Int := if lat = true ∨ f.lights = false then 0 else if f.fresh = true ∧ f.plan = true ∧ f.eyes = true then 3 else if f.plan = true then 2 else 1
theorem ySy (r : RunN) (f : FacN) : FnD Tryz.prog 159 [runV r, facV f] (.int .u8 (mayR r.lat f)) := by
 obtain ⟨m, w, l⟩ := r
 obtain ⟨f1, f2, f3, f4⟩ := f
 unfold runV facV
 cases l <;> cases f1 <;> cases f2 <;> cases f3 <;> cases f4 <;> (
  refine zAd mixed Tryz.func159 rfl rfl (by simp [Tryz.ntmps159]) fun hwf E => ?_
  clear hwf;simp (disch := omega) [Tryz.ntmps159, go_sem, mayR])
theorem ySz (l : Bool) (f : FacN) : 0 ≤ mayR l f ∧ mayR l f ≤ 3 := by unfold mayR; (repeat' split) <;> omega
def zGw (s : Sit) (r : RunN) (f : FacN) : RunN :=
 if mayR (r.lat || !f.lights) f ≤ r.mode then ⟨mayR (r.lat || !f.lights) f, 0, r.lat || !f.lights⟩
 else if s.heal ≤ r.well + 1 then ⟨r.mode + 1, 0, r.lat || !f.lights⟩ else ⟨r.mode, r.well + 1, r.lat || !f.lights⟩
set_option maxHeartbeats 1000000 in
theorem yLr (s : Sit) (r : RunN) (f : FacN) (hm : 0 ≤ r.mode ∧ r.mode ≤ 3) (hw : 0 ≤ r.well ∧ r.well ≤ 1048576) : FnD Tryz.prog 100 [sitV s, runV r, facV f] (runV (zGw s r f)) := by
 obtain ⟨m, w, l⟩ := r
 obtain ⟨f1, f2, f3, f4⟩ := f
 have hL : FnD Tryz.prog 159 [.agg [.int .u8 m, .int .i64 w, .bool (l || !f4)], .agg [.bool f1, .bool f2, .bool f3, .bool f4]] (.int .u8 (mayR (l || !f4) ⟨f1, f2, f3, f4⟩)) := ySy ⟨m, w, l || !f4⟩ ⟨f1, f2, f3, f4⟩
 have hin := ySz (l || !f4) ⟨f1, f2, f3, f4⟩
 have hres : ∀ l2, l2 = (l || !f4) → runV (zGw s ⟨m, w, l⟩ ⟨f1, f2, f3, f4⟩) = if mayR l2 ⟨f1, f2, f3, f4⟩ ≤ m then .agg [.int .u8 (mayR l2 ⟨f1, f2, f3, f4⟩), .int .i64 0, .bool l2] else if s.heal ≤ w + 1 then .agg [.int .u8 (m + 1), .int .i64 0, .bool l2] else .agg [.int .u8 m, .int .i64 (w + 1), .bool l2] := by
  intro l2 h;subst h;unfold zGw runV;simp only;split
  ·rfl
  ·split <;> rfl
 generalize runV (zGw s ⟨m, w, l⟩ ⟨f1, f2, f3, f4⟩) = res at *
 unfold runV facV sitV
 simp only at *
 cases l <;> cases f4
 all_goals
  simp only [Bool.false_or, Bool.true_or, Bool.not_true, Bool.not_false] at hL hin hres;have hr := hres _ rfl;clear hres;generalize mayR _ _ = x at *;refine zAd mixed Tryz.func100 rfl rfl (by simp [Tryz.ntmps100]) fun hwf E => ?_
  clear hwf;simp (disch := omega) [Tryz.ntmps100, go_sem];refine zAa hL [] (by simp [go_sem]) (.inl rfl) (by simp [go_sem]) (fun _ => ?_)
  simp (disch := omega) [go_sem];refine ⟨.inl (by kernel_rfl), ?_⟩
  refine zAc (fun h1 => ?_) (fun h1 => ?_) <;> simp at h1
  ·rw [if_pos h1] at hr;simp (disch := omega) [go_sem, hr]
  ·rw [if_neg (by omega)] at hr
   simp (disch := omega) [go_sem];refine zAc (fun h2 => ?_) (fun h2 => ?_) <;> simp at h2
   ·rw [if_pos h2] at hr;simp (disch := omega) [go_sem, hr]
   ·rw [if_neg (by omega)] at hr
    simp (disch := omega) [go_sem, hr]
noncomputable def zUy (s : Sit) (r : RunN) : Int := if zAm s ≠ 0 then zAm s else if 3 < r.mode ∨ r.well < 0 ∨ 1048576 < r.well ∨ (r.lat = true ∧ (r.mode ≠ 0 ∨ r.well ≠ 0)) then 8 else 0
theorem yMi (s : Sit) (r : RunN) : FnD Tryz.prog 99 [sitV s, runV r] (.int .i64 (zUy s r)) tabG := by
 obtain ⟨m, w, l⟩ := r
 have qc := zCe s
 unfold zUy runV sitV at *
 simp only
 generalize zAm s = c at *
 refine zAd mixed Tryz.func99 rfl rfl (by simp [Tryz.ntmps99]) fun hwf E => ?_
 clear hwf
 simp (disch := omega) [Tryz.ntmps99, go_sem]
 cases l
 all_goals
  repeat' first
   | (refine zAc (fun hb => ?_) (fun hb => ?_) <;> simp at hb)
   | (refine zBu (fun hb => ?_) (fun hb => ?_) <;> (try simp only [hb]) <;> (try simp at hb) <;> try simp (disch := omega) [go_sem, hb])
   | (refine zAa qc [] ?_ ?_ ?_ (fun _ => ?_) (by simp [tabG, go_sem]); (focus (simp [go_sem]; done)); (focus (exact .inl rfl)); (focus (simp [go_sem]; done)))
   | refine ⟨.inl (by kernel_rfl), ?_⟩
   | simp (disch := omega) [go_sem]
  all_goals first | omega | (simp_all []; done) | (simp_all []; omega) | ((repeat' split) <;> first | omega | (simp_all []; done) | (simp_all []; omega)) | skip
noncomputable def yAx (s : Sit) (r : RunN) (f : FacN) : RunN := if zUy s r = 0 then zGw s r f else ⟨0, 0, false⟩
theorem xCt {s : Sit} {r : RunN} (h : zUy s r = 0) : zAm s = 0 ∧ r.mode ≤ 3 ∧ 0 ≤ r.well ∧ r.well ≤ 1048576 := by
 unfold zUy at h
 split at h
 ·omega
 ·split at h <;> omega
theorem yBf (s : Sit) (r : RunN) (f : FacN) : FnD Tryz.prog 43 [sitV s, runV r, facV f] (.tup [runV (yAx s r f), .int .i64 (zUy s r)]) tabG := by
 obtain ⟨m, w, l⟩ := r
 obtain ⟨f1, f2, f3, f4⟩ := f
 have qc := yMi s ⟨m, w, l⟩
 have hok := xCt (s := s) (r := ⟨m, w, l⟩)
 have qs := fun h1 h2 => yLr s ⟨m, w, l⟩ ⟨f1, f2, f3, f4⟩ h1 h2
 unfold yAx
 generalize zUy s ⟨m, w, l⟩ = e at *
 generalize zGw s ⟨m, w, l⟩ ⟨f1, f2, f3, f4⟩ = r2 at *
 obtain ⟨a1, a2, a3⟩ := r2
 unfold runV facV sitV at *
 simp only at *
 refine zAd mixed Tryz.func43 rfl rfl (by simp [Tryz.ntmps43]) fun hwf E => ?_
 simp (disch := omega) [go_sem] at hwf
 simp (disch := omega) [Tryz.ntmps43, go_sem]
 refine zAa qc [] (by simp [go_sem]) (.inl rfl) (by simp [go_sem]) (fun _ => ?_) (by simp [tabG, go_sem])
 simp (disch := omega) [go_sem]
 refine zAc (fun h1 => ?_) (fun h1 => ?_) <;> simp at h1
 ·rw [if_neg h1];simp (disch := omega) [go_sem]
 ·subst h1;obtain ⟨_, o1, o2, o3⟩ := hok rfl;rw [if_pos rfl];simp (disch := omega) [go_sem];refine zAa (qs ⟨by omega, o1⟩ ⟨o2, o3⟩) [] (by simp [go_sem]) (.inl rfl) (by simp [go_sem]) (fun _ => ?_)
  simp (disch := omega) [go_sem]
def zIa (k : Int) : RunN := if k = 2 ∨ k = 3 then ⟨2, 0, false⟩ else ⟨1, 0, false⟩
theorem zYj (k : Int) : FnD Tryz.prog 62 [.int .u8 k] (runV (zIa k)) := by
 unfold zIa
 by_cases h : k = 2 ∨ k = 3
 ·rw [if_pos h];unfold runV;refine zAd mixed Tryz.func62 rfl rfl (by simp [Tryz.ntmps62]) fun hwf E => ?_
  clear hwf;simp (disch := omega) [Tryz.ntmps62, go_sem];repeat' first
   | (refine zAc (fun hb => ?_) (fun hb => ?_) <;> simp at hb)
   | (refine zBu (fun hb => ?_) (fun hb => ?_) <;> (try simp only [hb]) <;> (try simp at hb) <;> try simp (disch := omega) [go_sem, hb, h])
   | refine ⟨.inl (by kernel_rfl), ?_⟩
   | simp (disch := omega) [go_sem]
  all_goals first | omega | (simp_all []; done) | (simp_all []; omega) | ((repeat' split) <;> first | omega | (simp_all []; done) | (simp_all []; omega)) | skip
 ·rw [if_neg h];unfold runV;refine zAd mixed Tryz.func62 rfl rfl (by simp [Tryz.ntmps62]) fun hwf E => ?_
  clear hwf;simp (disch := omega) [Tryz.ntmps62, go_sem];repeat' first
   | (refine zAc (fun hb => ?_) (fun hb => ?_) <;> simp at hb)
   | (refine zBu (fun hb => ?_) (fun hb => ?_) <;> (try simp only [hb]) <;> (try simp at hb) <;> try simp (disch := omega) [go_sem, hb, h])
   | refine ⟨.inl (by kernel_rfl), ?_⟩
   | simp (disch := omega) [go_sem]
  all_goals first | omega | (simp_all []; done) | (simp_all []; omega) | ((repeat' split) <;> first | omega | (simp_all []; done) | (simp_all []; omega)) | skip
structure GapN where
 up : Bool
 held : Int
 opn : Int
 came : Int
 last : Int
def gapV (g : GapN) : V := .agg [.bool g.up, .int .i64 g.held, .int .i64 g.opn, .int .i64 g.came, .int .u64 g.last]
theorem zNm (x : Int) : 0 ≤ IntKind.u64.wrap x ∧ IntKind.u64.wrap x < 18446744073709551616 := by
 unfold IntKind.wrap
 simp [IntKind.bits, IntKind.signed]
 omega
theorem yPw {x : Int} (h : 0 ≤ x ∧ x < 18446744073709551616) : IntKind.u64.wrap x = x := by
 unfold IntKind.wrap
 simp [IntKind.bits, IntKind.signed]
 omega
theorem xAq {x : Int} (h0 : 0 ≤ x) (h1 : x < 18446744073709551616) : zDl .and .u64 x 1 = some (.int .u64 (x % 2)) := by
 obtain ⟨a, rfl⟩ := Int.eq_ofNat_of_zero_le h0
 unfold zDl
 show some (V.int .u64 (IntKind.u64.wrap (((BitVec.ofInt 64 (a : Int) &&& BitVec.ofInt 64 ((1 : Nat) : Int)).toNat : Nat) : Int))) = _
 rw [BitVec.ofInt_natCast, BitVec.ofInt_natCast, BitVec.toNat_and, BitVec.toNat_ofNat, BitVec.toNat_ofNat, Nat.mod_eq_of_lt (by omega), Nat.mod_eq_of_lt (by omega), Nat.and_one_is_mod, yPw ⟨by omega, by omega⟩]
 rfl
def or1 (x : Int) : Int := ((x.toNat ||| 1 : Nat) : Int)
theorem ySh {x : Int} (h0 : 0 ≤ x) (h1 : x < 18446744073709551616) : zDl .or .u64 x 1 = some (.int .u64 (or1 x)) := by
 obtain ⟨a, rfl⟩ := Int.eq_ofNat_of_zero_le h0
 unfold zDl or1
 show some (V.int .u64 (IntKind.u64.wrap (((BitVec.ofInt 64 (a : Int) ||| BitVec.ofInt 64 ((1 : Nat) : Int)).toNat : Nat) : Int))) = _
 have hlt : a ||| 1 < 18446744073709551616 := Nat.or_lt_two_pow (n := 64) (by omega) (by omega)
 rw [BitVec.ofInt_natCast, BitVec.ofInt_natCast, BitVec.toNat_or, BitVec.toNat_ofNat, BitVec.toNat_ofNat, Nat.mod_eq_of_lt (by omega), Nat.mod_eq_of_lt (by omega), yPw ⟨by omega, by omega⟩]
 rfl
def yPf (g : GapN) : Prop := 0 ≤ g.held ∧ 0 ≤ g.opn ∧ 0 ≤ g.came ∧ g.held ≤ 1048576 ∧ g.opn ≤ 1048576 ∧ g.came ≤ 1073741824 ∧ (g.up = true → g.opn = 0) ∧ (g.up = false → g.held = 0) ∧ (g.up = true ↔ g.last % 2 = 1)
noncomputable def gapE (g : GapN) : Int := open Classical in if yPf g then 0 else 8
theorem xFc {g : GapN} (h : yPf g) : gapE g = 0 := by unfold gapE; rw [if_pos h]
theorem yUj {g : GapN} (h : ¬ yPf g) : gapE g = 8 := by unfold gapE; rw [if_neg h]
set_option maxHeartbeats 2000000 in
theorem zTv (g : GapN) : FnD Tryz.prog 150 [gapV g] (.int .i64 (gapE g)) := by
 obtain ⟨u, h, o, c, l⟩ := g
 have hy := xFc (g := ⟨u, h, o, c, l⟩)
 have hn := yUj (g := ⟨u, h, o, c, l⟩)
 generalize gapE ⟨u, h, o, c, l⟩ = r at *
 unfold yPf at *
 simp only at *
 obtain ⟨mn, hmn⟩ : ∃ mn, (if c < if o < h then o else h then c else if o < h then o else h) = mn := ⟨_, rfl⟩
 obtain ⟨mx, hmx⟩ : ∃ mx, (if h < o then o else h) = mx := ⟨_, rfl⟩
 have hmn2 : mn ≤ c ∧ mn ≤ o ∧ mn ≤ h ∧ (mn = c ∨ mn = o ∨ mn = h) := by rw [← hmn]; (repeat' split) <;> omega
 have hmx2 : h ≤ mx ∧ o ≤ mx ∧ (mx = h ∨ mx = o) := by rw [← hmx]; split <;> omega
 unfold gapV
 simp only
 cases u
 all_goals
  simp only [reduceCtorEq, forall_const, false_implies, Bool.false_eq_true, true_iff, false_iff, true_and] at hy hn;refine zAd mixed Tryz.func150 rfl rfl (by simp [Tryz.ntmps150]) fun hwf E => ?_
  simp (disch := omega) [go_sem] at hwf;simp (disch := omega) [Tryz.ntmps150, go_sem];repeat' first
   | (refine zAc (fun hb => ?_) (fun hb => ?_) <;> simp at hb)
   | (refine zBu (fun hb => ?_) (fun hb => ?_) <;> (try simp only [hb]) <;> (try simp at hb) <;> try simp (disch := omega) [go_sem, hb, hmn, hmx, xAq])
   | refine ⟨.inl (by kernel_rfl), ?_⟩
   | simp (disch := omega) [go_sem, hmn, hmx, xAq]
  all_goals (try simp only [hmn, hmx] at *)
  all_goals omega
def addO (x m : Int) : Int := if m < x + 1 then m else x + 1
noncomputable def zLq (g : GapN) (up : Bool) : GapN :=
 if gapE g ≠ 0 then ⟨false, 0, 0, 0, 0⟩
 else if up = false then ⟨false, 0, addO g.opn 1048576, g.came, IntKind.u64.wrap (g.last * 2)⟩
 else ⟨true, addO g.held 1048576, 0, if g.up = true then g.came else addO g.came 1073741824, or1 (IntKind.u64.wrap (g.last * 2))⟩
theorem xQn {g : GapN} (h : gapE g = 0) : yPf g := by
 apply Classical.byContradiction
 intro hn
 rw [yUj hn] at h
 exact absurd h (by decide)
set_option maxHeartbeats 2000000 in
theorem yBu (g : GapN) (up : Bool) : FnD Tryz.prog 92 [gapV g, .bool up] (.tup [gapV (zLq g up), .int .i64 (gapE g)]) := by
 have qc := zTv g
 have hok := xQn (g := g)
 unfold zLq
 obtain ⟨u, h, o, c, l⟩ := g
 generalize gapE ⟨u, h, o, c, l⟩ = e at *
 have hb := zNm (l * 2)
 unfold gapV at *
 unfold yPf at hok
 simp only at *
 by_cases he : e = 0
 ·subst he;obtain ⟨k1, k2, k3, k4, k5, k6, _, _, _⟩ := hok rfl;clear hok;cases u <;> cases up
  all_goals
   refine zAd mixed Tryz.func92 rfl rfl (by simp [Tryz.ntmps92]) fun hwf E => ?_
   simp (disch := omega) [go_sem] at hwf;simp (disch := omega) [Tryz.ntmps92, go_sem];refine zAa qc [] (by simp [go_sem]) (.inl rfl) (by simp [go_sem]) (fun _ => ?_)
   simp (disch := omega) [go_sem];try simp (disch := omega) [go_sem, ySh, addO]
   try rfl
 ·cases u <;> cases up
  all_goals
   refine zAd mixed Tryz.func92 rfl rfl (by simp [Tryz.ntmps92]) fun hwf E => ?_
   clear hwf;simp (disch := omega) [Tryz.ntmps92, go_sem];refine zAa qc [] (by simp [go_sem]) (.inl rfl) (by simp [go_sem]) (fun _ => ?_)
   simp (disch := omega) [go_sem];refine zAc (fun h9 => ?_) (fun h9 => ?_) <;> simp at h9
   ·simp (disch := omega) [go_sem, he]
   ·exact absurd h9 he
noncomputable def zRy (g : GapN) (n : Int) : V :=
 if gapE g ≠ 0 then .tup [.bool false, .int .i64 (gapE g)] else if n < 0 ∨ 1048576 < n then .tup [.bool false, .int .i64 2]
 else .tup [.bool (!g.up && decide (n ≤ g.opn)), .int .i64 0]
theorem yBt (g : GapN) (n : Int) : FnD Tryz.prog 162 [gapV g, .int .i64 n] (zRy g n) := by
 have qc := zTv g
 unfold zRy
 obtain ⟨u, h, o, c, l⟩ := g
 generalize gapE ⟨u, h, o, c, l⟩ = e at *
 unfold gapV at *
 simp only at *
 by_cases he : e = 0
 ·subst he;rw [if_neg (by simp)]
  by_cases hn : n < 0 ∨ 1048576 < n
  ·rw [if_pos hn];refine zAd mixed Tryz.func162 rfl rfl (by simp [Tryz.ntmps162]) fun hwf E => ?_
   clear hwf;simp (disch := omega) [Tryz.ntmps162, go_sem];refine zAa qc [] (by simp [go_sem]) (.inl rfl) (by simp [go_sem]) (fun _ => ?_)
   simp (disch := omega) [go_sem];repeat' first
    | (refine zAc (fun hb => ?_) (fun hb => ?_) <;> simp at hb)
    | (refine zBu (fun hb => ?_) (fun hb => ?_) <;> (try simp only [hb]) <;> (try simp at hb) <;> try simp (disch := omega) [go_sem, hb, hn])
    | refine ⟨.inl (by kernel_rfl), ?_⟩
    | simp (disch := omega) [go_sem]
   all_goals first | omega | (simp_all []; done) | (simp_all []; omega) | ((repeat' split) <;> first | omega | (simp_all []; done) | (simp_all []; omega)) | skip
  ·rw [if_neg hn];cases u
   all_goals
    refine zAd mixed Tryz.func162 rfl rfl (by simp [Tryz.ntmps162]) fun hwf E => ?_
    clear hwf;simp (disch := omega) [Tryz.ntmps162, go_sem];refine zAa qc [] (by simp [go_sem]) (.inl rfl) (by simp [go_sem]) (fun _ => ?_)
    simp (disch := omega) [go_sem];repeat' first
     | (refine zAc (fun hb => ?_) (fun hb => ?_) <;> simp at hb)
     | (refine zBu (fun hb => ?_) (fun hb => ?_) <;> (try simp only [hb]) <;> (try simp at hb) <;> try simp (disch := omega) [go_sem, hb, hn])
     | refine ⟨.inl (by kernel_rfl), ?_⟩
     | simp (disch := omega) [go_sem]
    all_goals first | omega | (simp_all []; done) | (simp_all []; omega) | ((repeat' split) <;> first | omega | (simp_all []; done) | (simp_all []; omega)) | skip
 ·rw [if_pos he];refine zAd mixed Tryz.func162 rfl rfl (by simp [Tryz.ntmps162]) fun hwf E => ?_
  clear hwf;simp (disch := omega) [Tryz.ntmps162, go_sem];refine zAa qc [] (by simp [go_sem]) (.inl rfl) (by simp [go_sem]) (fun _ => ?_)
  simp (disch := omega) [go_sem];refine zAc (fun h9 => ?_) (fun h9 => ?_) <;> simp at h9
  ·simp (disch := omega) [go_sem]
  ·exact absurd h9 he
end
section
def ltQ (l : List Int) (i : Nat) : Bool := decide (4 < lAt l i)
def zEe (s : Sit) (l : List Int) : Int := if l.length ≠ s.groups.length then 4 else if anyR l.length (ltQ l) = true then 2 else 0
theorem zQr (s : Sit) (l : List Int) : FnD Tryz.prog 201 [sitV s, .sl 1 (lts l)] (.int .i64 (zEe s l)) := by
 unfold sitV
 refine zAd mixed Tryz.func201 rfl rfl (by simp [Tryz.ntmps201]) fun hwf E => ?_
 simp (disch := omega) [go_sem] at hwf
 simp (disch := omega) [Tryz.ntmps201, go_sem]
 refine zAc (fun h1 => ?_) (fun h1 => ?_) <;> simp at h1
 ·have e : zEe s l = 4 := by unfold zEe; rw [if_pos (by omega)]
  simp (disch := omega) [go_sem, e]
 ·have e : zEe s l = if anyR l.length (ltQ l) = true then 2 else 0 := by unfold zEe; rw [if_neg (by omega)]
  simp (disch := omega) [go_sem];refine zAe mixed (fun k : Nat => ⟨[(15, .int .i64 k), (14, .int .i64 l.length), (13, .sl 1 (lts l))], [], 1024, [], 22, 0, []⟩) (fun k => k ≤ l.length ∧ ∀ i, i < k → ltQ l i = false) (fun k => l.length - k) 0 ?_ ?_ ?_
  ·exact ⟨by omega, fun i hi => absurd hi (Nat.not_lt_zero i)⟩
  ·refine Le.mk [] [] ⟨rfl, rfl, rfl⟩ ?_ ?_ ?_ <;> simp [go_sem]
  ·rintro k ⟨hk, hno⟩
   simp (disch := omega) [go_sem];refine zAc (fun h => ?_) (fun h => ?_) <;> simp at h
   ·have hm := nthL h;have hm2 := getL h;simp (disch := omega) [go_sem, hm, h];refine zAc (fun h5 => ?_) (fun h5 => ?_) <;> simp at h5
    ·rw [zGf h (by simpa [ltQ] using h5), if_pos rfl] at e
     simp (disch := omega) [go_sem, e]
    ·have hno2 := zLv hno (by simpa [ltQ] using h5 : ltQ l k = false)
     simp (disch := omega) [go_sem];refine zAb (k + 1) (⟨by omega, hno2⟩) (by omega) (Le.mk [] [] ⟨rfl, rfl, rfl⟩ ?_ ?_ ?_) <;> simp [go_sem]
   ·have hkk : k = l.length := by omega
    subst hkk;rw [zJp hno, if_neg (by decide)] at e
    simp (disch := omega) [go_sem, e]
theorem zTl {s : Sit} {l : List Int} (h : zEe s l = 0) : l.length = s.groups.length := by
 by_cases e : l.length = s.groups.length
 ·exact e
 ·unfold zEe at h; rw [if_pos e] at h; exact absurd h (by decide)
noncomputable def zDq (s : Sit) (n : Int) : Int := if zAm s ≠ 0 then zAm s else if n < 0 ∨ 1048576 < n then 2 else 0
theorem zUn (s : Sit) (n : Int) : FnD Tryz.prog 155 [sitV s, .int .i64 n] (.int .i64 (zDq s n)) tabG := by
 have qc := zCe s
 unfold zDq sitV at *
 generalize zAm s = c at *
 refine zAd mixed Tryz.func155 rfl rfl (by simp [Tryz.ntmps155]) fun hwf E => ?_
 clear hwf
 simp (disch := omega) [Tryz.ntmps155, go_sem]
 repeat' first
  | (refine zAc (fun hb => ?_) (fun hb => ?_) <;> simp at hb)
  | (refine zBu (fun hb => ?_) (fun hb => ?_) <;> (try simp only [hb]) <;> (try simp at hb) <;> try simp (disch := omega) [go_sem, hb])
  | (refine zAa qc [] ?_ ?_ ?_ (fun _ => ?_) (by simp [tabG, go_sem]); (focus (simp [go_sem]; done)); (focus (exact .inl rfl)); (focus (simp [go_sem]; done)))
  | refine ⟨.inl (by kernel_rfl), ?_⟩
  | simp (disch := omega) [go_sem]
 all_goals first | omega | (simp_all []; done) | (simp_all []; omega) | ((repeat' split) <;> first | omega | (simp_all []; done) | (simp_all []; omega)) | skip
def wrQ (w l : List Int) (i : Nat) : Bool := lAt w i != lAt l i
def zEn (s : Sit) (w l : List Int) : Bool × Int :=
 if zEe s w ≠ 0 then (false, zEe s w) else if l.length ≠ 0 ∧ zEe s l ≠ 0 then (false, zEe s l)
 else (anyR l.length (wrQ w l), 0)
def wrI (s : Sit) (w l : List Int) (k : Nat) : Prop := k ≤ 2 ∧ (1 ≤ k → zEe s w = 0) ∧ (2 ≤ k → l.length = 0 ∨ zEe s l = 0)
set_option maxHeartbeats 2000000 in
theorem yKy (s : Sit) (w l : List Int) : FnD Tryz.prog 156 [sitV s, .sl 1 (lts w), .sl 1 (lts l)] (.tup [.bool (zEn s w l).1, .int .i64 (zEn s w l).2]) := by
 have hsv := zAs s
 have q1 := zQr s w
 have q2 := zQr s l
 rw [hsv] at q1 q2 ⊢
 refine zAd mixed Tryz.func156 rfl rfl (by simp [Tryz.ntmps156]) fun hwf E => ?_
 simp (disch := omega) [go_sem] at hwf
 simp (disch := omega) [Tryz.ntmps156, go_sem]
 refine zAe mixed (fun k : Nat => siS s [(19, .int .i64 k), (18, .int .i64 2), (17, .obj 80 2), (3, .ptr 0 1 0 0), (2, .sl 1 (lts l)), (1, .sl 1 (lts w))] [(80, ⟨.arr, 30, 1, [.sl 1 (lts w), .sl 1 (lts l)]⟩)] 1024 52) (fun k => wrI s w l k) (fun k => 2 - k) 0 ?_ ?_ ?_
 ·exact ⟨by omega, fun h => by omega, fun h => by omega⟩
 ·refine Le.mk [(0, some 0), (80, some 80)] [0, 80] ⟨rfl, rfl, rfl⟩ ?_ ?_ ?_ <;> simp [go_sem, siS, sitV]
 ·rintro k ⟨hk, hi1, hi2⟩
  rcases (show k = 0 ∨ k = 1 ∨ k = 2 by omega) with hk0 | hk0 | hk0 <;> subst hk0
  ·simp (disch := omega) [go_sem, siS, sitV];refine zAa q1 [] (by simp [go_sem]) (.inl rfl) (by simp [go_sem]) (fun _ => ?_)
   simp (disch := omega) [go_sem];refine zAc (fun h5 => ?_) (fun h5 => ?_) <;> simp at h5
   ·have e : zEn s w l = (false, zEe s w) := by unfold zEn; rw [if_pos h5]
    simp (disch := omega) [go_sem, e]
   ·simp (disch := omega) [go_sem];refine zAb 1 (⟨by omega, fun _ => h5, fun h => by omega⟩) (by omega) (Le.mk [(0, some 0), (80, some 80)] [0, 80] ⟨rfl, rfl, rfl⟩ ?_ ?_ ?_) <;> simp [go_sem]
  ·have hw0 := hi1 (by omega)
   simp (disch := omega) [go_sem, siS, sitV];refine zAc (fun h5 => ?_) (fun h5 => ?_) <;> simp at h5
   ·have h6 : l.length = 0 := by simpa using h5
    simp (disch := omega) [go_sem];refine zAb 2 (⟨by omega, fun _ => hw0, fun _ => .inl h6⟩) (by omega) (Le.mk [(0, some 0), (80, some 80)] [0, 80] ⟨rfl, rfl, rfl⟩ ?_ ?_ ?_) <;> simp [go_sem]
   ·have h6 : ¬ l.length = 0 := by simpa using h5
    simp (disch := omega) [go_sem];refine zAa q2 [] (by simp [go_sem]) (.inl rfl) (by simp [go_sem]) (fun _ => ?_)
    simp (disch := omega) [go_sem];refine zAc (fun h7 => ?_) (fun h7 => ?_) <;> simp at h7
    ·have e : zEn s w l = (false, zEe s l) := by unfold zEn; rw [if_neg (by omega), if_pos ⟨h6, h7⟩]
     simp (disch := omega) [go_sem, e]
    ·simp (disch := omega) [go_sem];refine zAb 2 (⟨by omega, fun _ => hw0, fun _ => .inr h7⟩) (by omega) (Le.mk [(0, some 0), (80, some 80)] [0, 80] ⟨rfl, rfl, rfl⟩ ?_ ?_ ?_) <;> simp [go_sem]
  ·have hw0 := hi1 (by omega)
   have hl0 := hi2 (by omega)
   have e : zEn s w l = (anyR l.length (wrQ w l), 0) := by
    unfold zEn;rw [if_neg (by omega), if_neg]
    rintro ⟨c1, c2⟩
    omega
   have hwl : ∀ i, i < l.length → i < w.length := fun i hi => by
    have := zTl hw0;rcases hl0 with h | h
    ·omega
    ·have := zTl h; omega
   simp (disch := omega) [go_sem, siS, sitV];refine zAe mixed (fun k : Nat => ⟨[(40, .int .i64 k), (39, .int .i64 l.length), (38, .sl 1 (lts l)), (1, .sl 1 (lts w))], [], 2048, [], 52, 0, []⟩) (fun k => k ≤ l.length ∧ ∀ i, i < k → wrQ w l i = false) (fun k => l.length - k) 0 ?_ ?_ ?_
   ·exact ⟨by omega, fun i hi => absurd hi (Nat.not_lt_zero i)⟩
   ·refine Le.mk [] [] ⟨rfl, rfl, rfl⟩ ?_ ?_ ?_ <;> simp [go_sem]
   ·rintro k ⟨hk, hno⟩
    simp (disch := omega) [go_sem];refine zAc (fun h => ?_) (fun h => ?_) <;> simp at h
    ·have hkw := hwl k h;have hm := nthL h;have hm2 := getL h;have hn := nthL hkw;have hn2 := getL hkw;simp (disch := omega) [go_sem, hm, h, hn, hkw];refine zAc (fun h5 => ?_) (fun h5 => ?_) <;> simp at h5
     ·rw [zGf h (by simpa [wrQ] using h5)] at e
      simp (disch := omega) [go_sem, e]
     ·have hno2 := zLv hno (by simpa [wrQ] using h5 : wrQ w l k = false)
      simp (disch := omega) [go_sem];refine zAb (k + 1) (⟨by omega, hno2⟩) (by omega) (Le.mk [] [] ⟨rfl, rfl, rfl⟩ ?_ ?_ ?_) <;> simp [go_sem]
    ·have hkk : k = l.length := by omega
     subst hkk;rw [zJp hno] at e;simp (disch := omega) [go_sem, e]
noncomputable def zJa (s : Sit) (n : Int) (w l : List Int) : Int × Int :=
 if zDq s n ≠ 0 then (0, zDq s n) else if (zEn s w l).2 ≠ 0 ∨ (zEn s w l).1 = false then (0, (zEn s w l).2) else (addO n 1048576, 0)
theorem yZd {s : Sit} {n : Int} (h : zDq s n = 0) : zAm s = 0 ∧ 0 ≤ n ∧ n ≤ 1048576 := by
 unfold zDq at h
 split at h
 ·omega
 ·split at h <;> omega
theorem zZf (s : Sit) (n : Int) (w l : List Int) : FnD Tryz.prog 95 [sitV s, .int .i64 n, .sl 1 (lts w), .sl 1 (lts l)] (.tup [.int .i64 (zJa s n w l).1, .int .i64 (zJa s n w l).2]) tabG := by
 have qc := zUn s n
 have qw := yKy s w l
 have hok := yZd (s := s) (n := n)
 have hb : zJa s n w l = if zDq s n ≠ 0 then (0, zDq s n) else if (zEn s w l).2 ≠ 0 ∨ (zEn s w l).1 = false then (0, (zEn s w l).2) else (addO n 1048576, 0) := rfl
 generalize zJa s n w l = r at *
 generalize zDq s n = c at *
 generalize zEn s w l = wr at *
 obtain ⟨w1, w2⟩ := wr
 unfold sitV at *
 simp only at *
 refine zAd mixed Tryz.func95 rfl rfl (by simp [Tryz.ntmps95]) fun hwf E => ?_
 clear hwf
 simp (disch := omega) [Tryz.ntmps95, go_sem]
 refine zAa qc [] (by simp [go_sem]) (.inl rfl) (by simp [go_sem]) (fun _ => ?_) (by simp [tabG, go_sem])
 simp (disch := omega) [go_sem]
 refine zAc (fun h1 => ?_) (fun h1 => ?_) <;> simp at h1
 ·rw [if_pos h1] at hb;simp (disch := omega) [go_sem, hb]
 ·rw [if_neg (by omega)] at hb
  obtain ⟨_, k1, k2⟩ := hok h1;simp (disch := omega) [go_sem];refine zAa qw [] (by simp [go_sem]) (.inl rfl) (by simp [go_sem]) (fun _ => ?_)
  simp (disch := omega) [go_sem];cases w1
  ·rw [if_pos (.inr rfl)] at hb;repeat' first
    | (refine zAc (fun hb => ?_) (fun hb => ?_) <;> simp at hb)
    | (refine zBu (fun hb => ?_) (fun hb => ?_) <;> (try simp only [hb]) <;> (try simp at hb) <;> try simp (disch := omega) [go_sem, hb, hb])
    | refine ⟨.inl (by kernel_rfl), ?_⟩
    | simp (disch := omega) [go_sem]
   all_goals first | omega | (simp_all []; done) | (simp_all []; omega) | ((repeat' split) <;> first | omega | (simp_all []; done) | (simp_all []; omega)) | skip
  ·by_cases h2 : w2 = 0
   ·subst h2;rw [if_neg (by simp)] at hb
    simp (disch := omega) [go_sem, hb, addO]
   ·rw [if_pos (.inl h2)] at hb;repeat' first
     | (refine zAc (fun hb => ?_) (fun hb => ?_) <;> simp at hb)
     | (refine zBu (fun hb => ?_) (fun hb => ?_) <;> (try simp only [hb]) <;> (try simp at hb) <;> try simp (disch := omega) [go_sem, hb, hb])
     | refine ⟨.inl (by kernel_rfl), ?_⟩
     | simp (disch := omega) [go_sem, hb]
    all_goals first | omega | (simp_all []; done) | (simp_all []; omega) | ((repeat' split) <;> first | omega | (simp_all []; done) | (simp_all []; omega)) | skip
noncomputable def zQk (s : Sit) (n : Int) : V := if zDq s n ≠ 0 then .tup [.bool false, .int .i64 (zDq s n)] else .tup [.bool (decide (s.feed ≤ n)), .int .i64 0]
theorem yNn (s : Sit) (n : Int) : FnD Tryz.prog 96 [sitV s, .int .i64 n] (zQk s n) tabG := by
 have qc := zUn s n
 have hv1 : zDq s n ≠ 0 → zQk s n = .tup [.bool false, .int .i64 (zDq s n)] := fun h => by unfold zQk; rw [if_pos h]
 have hv2 : zDq s n = 0 → zQk s n = .tup [.bool (decide (s.feed ≤ n)), .int .i64 0] := fun h => by unfold zQk; rw [if_neg (by omega)]
 generalize zQk s n = r at *
 generalize zDq s n = c at *
 unfold sitV at *
 refine zAd mixed Tryz.func96 rfl rfl (by simp [Tryz.ntmps96]) fun hwf E => ?_
 clear hwf
 simp (disch := omega) [Tryz.ntmps96, go_sem]
 refine zAa qc [] (by simp [go_sem]) (.inl rfl) (by simp [go_sem]) (fun _ => ?_) (by simp [tabG, go_sem])
 simp (disch := omega) [go_sem]
 refine zAc (fun h1 => ?_) (fun h1 => ?_) <;> simp at h1
 ·rw [hv1 h1];simp (disch := omega) [go_sem]
 ·rw [hv2 h1];simp (disch := omega) [go_sem]
end
section
theorem zZa (l : List Int) (hb : l.length ≤ 1048576) : FnR Tryz.prog 61 [] [.sl 1 (lts l)] [⟨.arr, 5, 1, lts l⟩] (.obj 0 l.length) := by
 have hp := zDd l
 refine zIz (fun hx => ?_) ?_
 ·have hl : l = [] := by simpa [lts] using hx
  subst hl;refine zAw mixed Tryz.func61 rfl rfl (by simp [Tryz.ntmps61]) (by simp) fun hwf E => ?_
  simp (disch := omega) [Tryz.ntmps61, go_sem];refine Le.mk [(0, none)] [] ⟨rfl, rfl, rfl⟩ ?_ ?_ ?_ <;> simp [go_sem, lts]
 ·refine zAw mixed Tryz.func61 rfl rfl (by simp [Tryz.ntmps61]) (by simp) fun hwf E => ?_
  simp (disch := omega) [go_sem, zKq] at hwf;simp (disch := omega) [Tryz.ntmps61, go_sem, zKq];refine ⟨by omega, Le.mk [(0, some 64)] [64] ⟨rfl, rfl, rfl⟩ ?_ ?_ ?_⟩ <;> simp [go_sem, hp]
theorem xCz (τ : Nat → Nat) (l : List Int) : rens τ (lts l) = lts l := zDg _ (zDd l)
attribute [go_sem] xCz
def fiA (n : Nat) (a : Int) (k : Nat) : List Int := (List.range n).map fun i => if i < k then a else 0
theorem zYu (n : Nat) (a : Int) (k : Nat) : (fiA n a k).length = n := by simp [fiA]
theorem yJm (n : Nat) (a : Int) : lts (fiA n a 0) = List.replicate n (.int .u8 0) := by simp [lts, fiA, List.map_const']
theorem yUw {n k : Nat} {a : Int} (h : k < n) : (lts (fiA n a k)).set k (.int .u8 a) = lts (fiA n a (k + 1)) := by
 apply List.ext_getElem (by simp [lts, fiA])
 intro i h1 h2
 simp only [lts, fiA, List.getElem_set, List.getElem_map, List.getElem_range]
 by_cases e : k = i
 ·subst e; simp
 ·rw [if_neg e];by_cases e2 : i < k
  ·rw [if_pos e2, if_pos (by omega)]
  ·rw [if_neg e2, if_neg (by omega)]
theorem yUx (n : Nat) (a : Int) : fiA n a n = List.replicate n a := by
 apply List.ext_getElem (by simp [fiA])
 intro i h1 h2
 have h : i < n := by simpa using h2
 simp [fiA, h]
theorem xFd (n : Nat) (a : Int) (hn : n ≤ 1048576) : FnR Tryz.prog 169 [] [.int .i64 n, .int .u8 a] [⟨.arr, 5, 1, lts (List.replicate n a)⟩] (.obj 0 n) := by
 refine zAw mixed Tryz.func169 rfl rfl (by simp [Tryz.ntmps169]) (by simp) fun hwf E => ?_
 simp (disch := omega) [go_sem] at hwf
 simp (disch := omega) [Tryz.ntmps169, go_sem]
 refine ⟨by omega, ?_⟩
 rw [← yJm n a]
 refine zAe mixed (fun k : Nat => ⟨[(11, .int .i64 k), (10, .int .i64 n), (5, .obj 32 n), (1, .int .u8 a)], [(32, ⟨.arr, 5, 1, lts (fiA n a k)⟩)], 1024, [], 20, 0, []⟩) (fun k => k ≤ n) (fun k => n - k) 0 ?_ ?_ ?_
 ·omega
 ·refine Le.mk [(32, some 48)] [48] ⟨rfl, rfl, rfl⟩ ?_ ?_ ?_ <;> simp [go_sem]
 ·intro k hk;have e1 := zYu n a k;simp (disch := omega) [go_sem];refine zAc (fun h => ?_) (fun h => ?_) <;> simp at h
  ·have e2 := yUw (a := a) h;have e3 := zYu n a (k + 1);have en := nthL (l := fiA n a k) (k := k) (by rw [e1]; exact h)
   simp (disch := omega) [go_sem, e1, h, en];refine zAb (k + 1) (by omega) (by omega) (Le.mk [(32, some 32)] [32] ⟨rfl, rfl, rfl⟩ ?_ ?_ ?_) <;> simp [go_sem, e2]
  ·have hkk : k = n := by omega
   subst hkk;rw [yUx];simp (disch := omega) [go_sem];refine Le.mk [(0, some 32)] [32] ⟨rfl, rfl, rfl⟩ ?_ ?_ ?_ <;> simp [go_sem]
def zPq (w : SafN) (x : Seen) : Bool := if w.flashed = true then x.aspect != 4 else (decide (x.aspect < 1) || decide (3 < x.aspect)) || (decide (0 < w.start) && x.aspect != 1)
theorem yNv (w : SafN) (x : Seen) : FnD Tryz.prog 205 [zBb x, .tptr 3 [safV w] 0 0] (.bool (zPq w x)) := by
 obtain ⟨g, st, fl⟩ := w
 obtain ⟨a, b, c⟩ := x
 have hq : zPq ⟨g, st, fl⟩ ⟨a, b, c⟩ = if fl = true then a != 4 else (decide (a < 1) || decide (3 < a)) || (decide (0 < st) && a != 1) := rfl
 rw [hq]
 unfold safV zBb
 simp only
 cases fl
 ·refine zAd mixed Tryz.func205 rfl rfl (by simp [Tryz.ntmps205]) fun hwf E => ?_
  clear hwf;simp (disch := omega) [Tryz.ntmps205, go_sem]
 ·refine zAd mixed Tryz.func205 rfl rfl (by simp [Tryz.ntmps205]) fun hwf E => ?_
  clear hwf;simp (disch := omega) [Tryz.ntmps205, go_sem]
noncomputable def zWl (s : Sit) (w : SafN) : Int := if zAm s ≠ 0 then zAm s else if mayS s w = false then 8 else 0
theorem yUl (s : Sit) (w : SafN) (l : List Int) : ∃ b f, zHz s w l = .tup [safV b, .int .u8 f, .int .i64 (zWl s w)] := by
 unfold zHz zWl
 split
 ·exact ⟨_, _, rfl⟩
 ·split
  ·exact ⟨_, _, rfl⟩
  ·split <;> exact ⟨_, _, rfl⟩
noncomputable def zYp (s : Sit) (w : SafN) : Bool := w.groups.length == s.groups.length && (decide (zWl s w = 0) && !w.groups.any (zPq w))
set_option maxHeartbeats 2000000 in
theorem yUe (s : Sit) (w : SafN) (hs : s.groups.length ≤ 16) : FnD Tryz.prog 167 [sitV s, safV w] (.bool (zYp s w)) tabG := by
 have hsv := zAs s
 have hgs : zYp s w = (w.groups.length == s.groups.length && (decide (zWl s w = 0) && !w.groups.any (zPq w))) := rfl
 have q1 := fun h => zWw s w (List.replicate w.groups.length 4) h
 obtain ⟨nb, nf, hnv⟩ := yUl s w (List.replicate w.groups.length 4)
 rw [hnv] at q1
 have q2 := zOt w.groups 205 [] [.tptr 3 [safV w] 0 0] (zPq w) (by simp [go_sem]) (by simp [go_sem]) (fun x _ => yNv w x)
 generalize zWl s w = e at *
 generalize w.groups.any (zPq w) = an at *
 generalize zYp s w = res at *
 obtain ⟨g, st, fl⟩ := w
 obtain ⟨g2, st2, fl2⟩ := nb
 rw [hsv] at q1 ⊢
 unfold safV at *
 simp only at *
 refine zAd mixed Tryz.func167 rfl rfl (by simp [Tryz.ntmps167]) fun hwf E => ?_
 clear hwf
 simp (disch := omega) [Tryz.ntmps167, go_sem]
 refine zAc (fun h1 => ?_) (fun h1 => ?_) <;> simp at h1
 ·have e1 : res = false := by rw [hgs]; simp; intro h; omega
  simp (disch := omega) [go_sem, e1]
 ·have h1' : g.length = s.groups.length := by omega
  have e1 : res = (decide (e = 0) && !an) := by rw [hgs]; simp [h1']
  have q3 := q1 (by omega)
  simp (disch := omega) [go_sem];refine ⟨by omega, ?_⟩
  rw [← yJm g.length 4];refine zAe mixed (fun k : Nat => siS s [(23, .int .i64 k), (22, .int .i64 g.length), (5, .obj 208 g.length), (3, .ptr 16 1 0 0), (2, .ptr 0 1 0 0)] [(208, ⟨.arr, 5, 1, lts (fiA g.length 4 k)⟩), (16, safB g st fl)] 1024 45 tabG) (fun k => k ≤ g.length) (fun k => g.length - k) 0 ?_ ?_ ?_
  ·omega
  ·refine Le.mk [(0, some 0), (16, some 16), (208, some 208)] [0, 16, 208] ⟨rfl, rfl, rfl⟩ ?_ ?_ ?_ <;> simp [go_sem, siS, sitV, safB]
  ·intro k hk;have e2 := zYu g.length 4 k;simp (disch := omega) [go_sem, siS, sitV, safB];refine zAc (fun h => ?_) (fun h => ?_) <;> simp at h
   ·have e3 := yUw (a := 4) h;have e4 := zYu g.length 4 (k + 1);have en := nthL (l := fiA g.length 4 k) (k := k) (by rw [e2]; exact h)
    simp (disch := omega) [go_sem, e2, h, en];refine zAb (k + 1) (by omega) (by omega) (Le.mk [(0, some 0), (16, some 16), (208, some 208)] [0, 16, 208] ⟨rfl, rfl, rfl⟩ ?_ ?_ ?_) <;> simp [go_sem, e3]
   ·have hkk : k = g.length := by omega
    subst hkk;rw [yUx] at *;simp (disch := omega) [go_sem];refine zCk q3 [208] [(208, ⟨.ro, 5, 1, lts (List.replicate g.length 4)⟩)] (by simp [go_sem]) (by simp [go_sem]) (by simp [go_sem]) (fun _ => ?_) (by simp [tabG, go_sem])
    simp (disch := omega) [go_sem];refine zAc (fun h5 => ?_) (fun h5 => ?_) <;> simp at h5
    ·have e5 : res = false := by rw [e1]; simp [h5]
     simp (disch := omega) [go_sem, e5]
    ·have e5 : res = !an := by rw [e1]; simp [h5]
     simp (disch := omega) [go_sem];refine zAa q2 [16] (by simp [go_sem]) (.inr (by simp [go_sem])) (by simp [go_sem]) (fun _ => ?_)
     simp (disch := omega) [go_sem];simp (disch := omega) [go_sem, e5]
noncomputable def zTw (s : Sit) (w : SafN) : Int := if zAm s ≠ 0 then zAm s else if zYp s w = false then 8 else 0
theorem yUh (s : Sit) (w : SafN) : FnD Tryz.prog 105 [sitV s, safV w] (.int .i64 (zTw s w)) tabG := by
 have qc := zCe s
 have hok : zAm s = 0 → s.groups.length ≤ 16 := fun h => by
  by_cases hs : zAk s
  ·exact (zMc hs).g16
  ·unfold zAm at h; rw [if_neg hs] at h; exact absurd h (by decide)
 have qg := fun h => yUe s w h
 unfold zTw
 generalize zAm s = c at *
 generalize zYp s w = g at *
 obtain ⟨a, b, d⟩ := w
 unfold safV sitV at *
 simp only at *
 by_cases hc : c = 0
 ·subst hc;have q2 := qg (hok rfl);cases g
  all_goals
   refine zAd mixed Tryz.func105 rfl rfl (by simp [Tryz.ntmps105]) fun hwf E => ?_
   clear hwf;simp (disch := omega) [Tryz.ntmps105, go_sem];refine zAa qc [] (by simp [go_sem]) (.inl rfl) (by simp [go_sem]) (fun _ => ?_) (by simp [tabG, go_sem])
   simp (disch := omega) [go_sem];refine zAa q2 [] (by simp [go_sem]) (.inl rfl) (by simp [go_sem]) (fun _ => ?_) (by simp [tabG, go_sem])
   simp (disch := omega) [go_sem]
 ·refine zAd mixed Tryz.func105 rfl rfl (by simp [Tryz.ntmps105]) fun hwf E => ?_
  clear hwf;simp (disch := omega) [Tryz.ntmps105, go_sem];repeat' first
   | (refine zAc (fun hb => ?_) (fun hb => ?_) <;> simp at hb)
   | (refine zBu (fun hb => ?_) (fun hb => ?_) <;> (try simp only [hb]) <;> (try simp at hb) <;> try simp (disch := omega) [go_sem, hb])
   | (refine zAa qc [] ?_ ?_ ?_ (fun _ => ?_) (by simp [tabG, go_sem]); (focus (simp [go_sem]; done)); (focus (exact .inl rfl)); (focus (simp [go_sem]; done)))
   | refine ⟨.inl (by kernel_rfl), ?_⟩
   | simp (disch := omega) [go_sem]
  all_goals first | omega | (simp_all []; done) | (simp_all []; omega) | ((repeat' split) <;> first | omega | (simp_all []; done) | (simp_all []; omega)) | skip
end
section
def blkB (s : Sit) (g : List Seen) (out : List Int) (i k : Nat) : Bool := isAp s i k && (lAt out k != 1 || decide ((sAt g k).ended < betw s k i))
def blkN (s : Sit) (g : List Seen) (out : List Int) (i : Nat) : Bool := anyR g.length (blkB s g out i)
set_option maxHeartbeats 2000000 in
theorem yHo (s : Sit) (g : List Seen) (st : Int) (fl : Bool) (out : List Int) (i : Nat) (hs : Shp s) (hap : ∀ a, (h : a < s.apart.length) → s.apart[a] < 4294967296) (hg : g.length = s.groups.length) (ho : out.length = s.groups.length) (hi : i < s.groups.length) : FnD Tryz.prog 171 [.int .i64 i, .tptr 3 [safV ⟨g, st, fl⟩] 0 0, .tptr 12 [sitV s] 0 0, .tptr 1 [.sl 1 (lts out)] 0 0] (.bool (blkN s g out i)) := by
 obtain ⟨h1, h2, h3, h4, _⟩ := hs
 unfold safV sitV
 simp only
 refine zAd mixed Tryz.func171 rfl rfl (by simp [Tryz.ntmps171]) fun hwf E => ?_
 clear hwf
 simp (disch := omega) [Tryz.ntmps171, go_sem]
 have ha : i < s.apart.length := by omega
 have hlt := hap i ha
 refine zAe mixed (fun k : Nat => ⟨[(11, .int .i64 k), (10, .int .i64 g.length), (9, .sl 3 (g.map zBb)), (0, .int .i64 i), (1, .tptr 3 [.agg [.sl 3 (g.map zBb), .int .i64 st, .bool fl]] 0 0), (2, .tptr 12 [sitV s] 0 0), (3, .tptr 1 [.sl 1 (lts out)] 0 0)], [], 1024, [], 46, 0, []⟩) (fun k => k ≤ g.length ∧ ∀ j, j < k → blkB s g out i j = false) (fun k => g.length - k) 0 ?_ ?_ ?_
 ·exact ⟨by omega, fun j hj => absurd hj (Nat.not_lt_zero j)⟩
 ·refine Le.mk [] [] ⟨rfl, rfl, rfl⟩ ?_ ?_ ?_ <;> simp [go_sem, sitV]
 ·rintro k ⟨hk, hno⟩
  simp (disch := omega) [go_sem, sitV];refine zAc (fun h => ?_) (fun h => ?_) <;> simp at h
  ·have hn := nthS h;have hkl : k < out.length := by omega
   have hm := nthL hkl;have hm2 := getL hkl;have hkb : k < s.between.length := by omega
   have hib : i < s.between[k].length := by rw [h3]; omega
   have i3 : s.between[k][i] = betw s k i := by simp [betw, hkb, hib]
   obtain ⟨m, hb2, hr⟩ := zLt (b := k) hlt;rw [show s.apart[i].testBit k = isAp s i k by simp [isAp, ha]] at hr
   have hB : blkB s g out i k = (isAp s i k && (lAt out k != 1 || decide ((sAt g k).ended < betw s k i))) := rfl
   by_cases hm1 : m = 1
   ·rw [hr.1 hm1] at hB;subst hm1;simp (disch := omega) [go_sem, hn, h, zBb, zGx, zDu, ha, zGe, hb2, hm, hkl, zJl, zDv, hkb, zBc, zAi, hib, i3];refine ⟨.inl (by kernel_rfl), ?_⟩
    refine zAc (fun h5 => ?_) (fun h5 => ?_) <;> simp at h5
    ·have e : blkB s g out i k = true := by rw [hB]; simpa using h5
     simp (disch := omega) [go_sem];exact zGf h e
    ·have e : blkB s g out i k = false := by rw [hB]; simpa using h5
     have hno2 := zLv hno e;simp (disch := omega) [go_sem];refine zAb (k + 1) (⟨by omega, hno2⟩) (by omega) (Le.mk [] [] ⟨rfl, rfl, rfl⟩ ?_ ?_ ?_) <;> simp [go_sem]
   ·have hf : isAp s i k = false := by
     cases hx : isAp s i k
     ·rfl
     ·exact absurd (hr.2 hx) hm1
    rw [hf, Bool.false_and] at hB;have hmf : ((m : Int) == 1) = false := by simp; omega
    have hno2 := zLv hno hB;simp (disch := omega) [go_sem, hn, h, zBb, zGx, zDu, ha, zGe, hb2, hmf, hm, hkl, zJl, zDv, hkb, zBc, zAi, hib, i3];refine ⟨.inl (by kernel_rfl), ?_⟩
    try simp (disch := omega) [go_sem, hmf]
    refine zAb (k + 1) (⟨by omega, hno2⟩) (by omega) (Le.mk [] [] ⟨rfl, rfl, rfl⟩ ?_ ?_ ?_) <;> simp [go_sem]
  ·have hkk : k = g.length := by omega
   subst hkk;simp (disch := omega) [go_sem];exact zJp hno
def ad1A (s : Sit) (g : List Seen) (l : List Int) (i : Nat) : Int := if (sAt g i).aspect ≠ 1 then zUv (gAt s i) (sAt g i) (lAt l i) else 1
def ad1 (s : Sit) (g : List Seen) (l : List Int) (k : Nat) : List Int := (List.range g.length).map fun i => if i < k then ad1A s g l i else 1
theorem zZj (s : Sit) (g : List Seen) (l : List Int) (k : Nat) : (ad1 s g l k).length = g.length := by simp [ad1]
theorem xLk (s : Sit) (g : List Seen) (l : List Int) : ad1 s g l 0 = List.replicate g.length 1 := by simp [ad1, List.map_const']
theorem xTv {s : Sit} {g : List Seen} {l : List Int} {k : Nat} (h : k < g.length) : (lts (ad1 s g l k)).set k (.int .u8 (ad1A s g l k)) = lts (ad1 s g l (k + 1)) := by
 apply List.ext_getElem (by simp [lts, ad1])
 intro i h1 h2
 simp only [lts, ad1, List.getElem_set, List.getElem_map, List.getElem_range]
 by_cases e : k = i
 ·subst e; simp
 ·rw [if_neg e];by_cases e2 : i < k
  ·rw [if_pos e2, if_pos (by omega)]
  ·rw [if_neg e2, if_neg (by omega)]
theorem xLl {s : Sit} {g : List Seen} {l : List Int} {k : Nat} (h : k < g.length) (ha : (sAt g k).aspect = 1) : ad1 s g l (k + 1) = ad1 s g l k := by
 apply List.ext_getElem (by simp [ad1])
 intro i h1 h2
 simp only [ad1, List.getElem_map, List.getElem_range]
 by_cases e : i = k
 ·subst e;rw [if_pos (by omega), if_neg (by omega)]
  unfold ad1A;rw [if_neg (by omega)]
 ·by_cases e2 : i < k
  ·rw [if_pos e2, if_pos (by omega)]
  ·rw [if_neg e2, if_neg (by omega)]
def ad2 (s : Sit) (g : List Seen) (l : List Int) : Nat → List Int
 | 0 => ad1 s g l g.length
 | k + 1 => if ((sAt g k).aspect = 1 ∧ lAt l k = 2) ∧ blkN s g (ad2 s g l k) k = false then (ad2 s g l k).set k 2 else ad2 s g l k
theorem zUr (s : Sit) (g : List Seen) (l : List Int) : ∀ k, (ad2 s g l k).length = g.length
 | 0 => zZj _ _ _ _
 | k + 1 => by
  have ih := zUr s g l k;show (if _ then _ else _ : List Int).length = _
  split
  ·rw [List.length_set]; exact ih
  ·exact ih
def admG (s : Sit) (g : List Seen) (l : List Int) : List Int := ad2 s g l g.length
def zCd (s : Sit) (g : List Seen) (st : Int) (fl : Bool) (l : List Int) : List Int :=
 if zDp l = true then l else if fl = true ∨ 0 < st then List.replicate l.length 1 else admG s g l
theorem xPv (l : List Int) (k : Nat) (x : Int) : (lts l).set k (.int .u8 x) = lts (l.set k x) := by simp [lts, List.map_set]
theorem yHp (a : Int) : FnD Tryz.prog 168 [.int .u8 a] (.bool (a != 4)) := by
 refine zAd mixed Tryz.func168 rfl rfl (by simp [Tryz.ntmps168]) fun hwf E => ?_
 clear hwf
 simp (disch := omega) [Tryz.ntmps168, go_sem]
set_option maxHeartbeats 8000000 in
theorem yPd (s : Sit) (g : List Seen) (st : Int) (fl : Bool) (l : List Int) (hs : Shp s) (hg : g.length = s.groups.length) (hl : l.length = s.groups.length) : FnD Tryz.prog 106 [sitV s, safV ⟨g, st, fl⟩, .sl 1 (lts l)] (.sl 1 (lts (zCd s g st fl l))) := by
 have hsv := zAs s
 have h16 := hs.g16
 have q1 := zHq l 168 [] [] (fun a => a != 4) (by simp [go_sem]) (by simp [go_sem]) (fun x _ => yHp x)
 have q2 := zZa l (by omega)
 have q3 := xFd l.length 1 (by omega)
 have hv1 : (l.any fun a => a != 4) = false → zCd s g st fl l = l := fun h => by unfold zCd zDp; rw [h]; rfl
 have hv2 : (l.any fun a => a != 4) = true → (fl = true ∨ 0 < st) → zCd s g st fl l = List.replicate l.length 1 := fun h h2 => by unfold zCd zDp; rw [h, if_neg (by decide), if_pos h2]
 have hv3 : (l.any fun a => a != 4) = true → ¬ (fl = true ∨ 0 < st) → zCd s g st fl l = admG s g l := fun h h2 => by unfold zCd zDp; rw [h, if_neg (by decide), if_neg h2]
 have qb := fun out i hap ho hi => yHo s g st fl out i hs hap hg ho hi
 rw [hsv] at qb
 unfold safV at *
 simp only at *
 generalize hres : zCd s g st fl l = res at *
 clear hres
 generalize (l.any fun a => a != 4) = an at *
 rw [hsv]
 refine zAd mixed Tryz.func106 rfl rfl (by simp [Tryz.ntmps106]) fun hwf E => ?_
 simp (disch := omega) [go_sem] at hwf
 simp (disch := omega) [Tryz.ntmps106, go_sem]
 refine zAj q1 [] (by simp [go_sem]) (fun h1 => ?_) (fun h1 => ?_) <;> try simp [inN] at h1
 ·simp (disch := omega) [go_sem];cases fl
  ·simp (disch := omega) [go_sem];refine zAc (fun h2 => ?_) (fun h2 => ?_) <;> simp at h2
   ·rw [hv2 h1 (.inr h2)];simp (disch := omega) [go_sem];refine zAf q3 [] [] [] [] ?_ ?_ ?_ (.inl ⟨rfl, .inl rfl⟩) (fun _ => ?_)
    iterate 3 (· simp [go_sem])
    simp (disch := omega) [go_sem];try exact zAt (by simp [go_sem])
   ·have hv := hv3 h1 (by simp; omega)
    have hap : ∀ a, (h : a < s.apart.length) → s.apart[a] < 4294967296 := fun a ha => yHv (s := s) (by simp_all) a ha
    rw [hv];simp (disch := omega) [go_sem];refine zAf q3 [] [] [] [] ?_ ?_ ?_ (.inl ⟨rfl, .inl rfl⟩) (fun _ => ?_)
    iterate 3 (· simp [go_sem])
    simp (disch := omega) [go_sem];rw [hl, ← hg, ← xLk s g l];refine zAe mixed (fun k : Nat => siS s [(36, .int .i64 k), (35, .int .i64 g.length), (34, .sl 3 (g.map zBb)), (8, .ptr 304 1 0 0), (4, .ptr 16 1 0 0), (3, .ptr 0 1 0 0), (2, .sl 1 (lts l))] [(304, ⟨.box, 30, 1, [.obj 288 g.length]⟩), (288, ⟨.arr, 5, 1, lts (ad1 s g l k)⟩), (16, safB g st false)] 1024 89) (fun k => k ≤ g.length) (fun k => g.length - k) 0 ?_ ?_ ?_
    ·omega
    ·refine Le.mk [(0, some 0), (16, some 16), (288, some 288), (304, some 304)] [0, 16, 288, 304] ⟨rfl, rfl, rfl⟩ ?_ ?_ ?_ <;> simp [go_sem, siS, sitV, safB]
    ·intro k hk;have e1 := zZj s g l k;simp (disch := omega) [go_sem, siS, sitV, safB];refine zAc (fun h => ?_) (fun h => ?_) <;> simp at h
     ·have hn := nthS h;have hkl : k < l.length := by omega
      have hkg : k < s.groups.length := by omega
      have hm := nthL hkl;have hm2 := getL hkl;have hgn := nthG hkg;have e2 := xTv (s := s) (l := l) h;have e3 := zZj s g l (k + 1);have en := nthL (l := ad1 s g l k) (k := k) (by rw [e1]; exact h)
      simp (disch := omega) [go_sem, hn, h, zBb];refine zAc (fun h5 => ?_) (fun h5 => ?_) <;> simp at h5
      ·have q4 := yLc (gAt s k) (sAt g k) (lAt l k);have ha1 : ad1A s g l k = zUv (gAt s k) (sAt g k) (lAt l k) := by unfold ad1A; rw [if_pos h5]
       rw [ha1] at e2;simp only [zBb, grpV] at q4;simp (disch := omega) [go_sem, hm, hkl, hkg, hgn, grpV];refine zAa q4 [] (by simp [go_sem]) (.inl rfl) (by simp [go_sem]) (fun _ => ?_)
       simp (disch := omega) [go_sem];simp (disch := omega) [go_sem, e1, h, en];refine ⟨.inl (by kernel_rfl), ?_⟩
       refine zAb (k + 1) (by omega) (by omega) (Le.mk [(0, some 0), (16, some 16), (288, some 288), (304, some 304)] [0, 16, 288, 304] ⟨rfl, rfl, rfl⟩ ?_ ?_ ?_) <;> simp [go_sem, e2]
      ·have e4 := xLl (s := s) (l := l) h h5;rw [← e4] at *;simp (disch := omega) [go_sem];refine zAb (k + 1) (by omega) (by omega) (Le.mk [(0, some 0), (16, some 16), (288, some 288), (304, some 304)] [0, 16, 288, 304] ⟨rfl, rfl, rfl⟩ ?_ ?_ ?_) <;> simp [go_sem]
     ·have hkk : k = g.length := by omega
      subst hkk;have h20 : ad1 s g l g.length = ad2 s g l 0 := rfl;rw [h20] at *;simp (disch := omega) [go_sem];refine zAe mixed (fun k : Nat => siS s [(63, .int .i64 k), (62, .int .i64 g.length), (61, .sl 3 (g.map zBb)), (11, .func (.func 171) [] [.ptr 16 1 0 0, .ptr 0 1 0 0, .ptr 304 1 0 0]), (8, .ptr 304 1 0 0), (2, .sl 1 (lts l))] [(304, ⟨.box, 30, 1, [.obj 288 g.length]⟩), (288, ⟨.arr, 5, 1, lts (ad2 s g l k)⟩), (16, safB g st false)] 2048 89) (fun k => k ≤ g.length) (fun k => g.length - k) 0 ?_ ?_ ?_
      ·omega
      ·refine Le.mk [(0, some 0), (16, some 16), (288, some 288), (304, some 304)] [0, 16, 288, 304] ⟨rfl, rfl, rfl⟩ ?_ ?_ ?_ <;> simp [go_sem, siS, sitV, safB]
      ·intro k hk;have e1 := zUr s g l k;simp (disch := omega) [go_sem, siS, sitV, safB];refine zAc (fun h => ?_) (fun h => ?_) <;> simp at h
       ·have hn := nthS h;have hkl : k < l.length := by omega
        have hm := nthL hkl;have hm2 := getL hkl;have e5 : ad2 s g l (k + 1) = if ((sAt g k).aspect = 1 ∧ lAt l k = 2) ∧ blkN s g (ad2 s g l k) k = false then (ad2 s g l k).set k 2 else ad2 s g l k := rfl
        have e3 := zUr s g l (k + 1);have en := nthL (l := ad2 s g l k) (k := k) (by rw [e1]; exact h)
        have q5 := qb (ad2 s g l k) k hap (by omega) (by omega)
        by_cases h5 : (sAt g k).aspect = 1
        ·by_cases h6 : lAt l k = 2
         ·simp (disch := omega) [go_sem, hn, h, zBb, h5, hm, hkl, h6];refine zAj q5 [0, 16, 288, 304] (by simp [go_sem, e1]) (fun h7 => ?_) (fun h7 => ?_) <;> try simp [inN] at h7
          ·rw [if_neg (by rw [h7]; simp)] at e5
           rw [← e5] at *;simp (disch := omega) [go_sem];refine zAb (k + 1) (by omega) (by omega) (Le.mk [(0, some 0), (16, some 16), (288, some 288), (304, some 304)] [0, 16, 288, 304] ⟨rfl, rfl, rfl⟩ ?_ ?_ ?_) <;> simp [go_sem]
          ·rw [if_pos ⟨⟨h5, h6⟩, h7⟩] at e5;simp (disch := omega) [go_sem, e1, h, en];refine zAb (k + 1) (by omega) (by omega) (Le.mk [(0, some 0), (16, some 16), (288, some 288), (304, some 304)] [0, 16, 288, 304] ⟨rfl, rfl, rfl⟩ ?_ ?_ ?_) <;> simp [go_sem, e5, xPv]
         ·rw [if_neg (by omega)] at e5
          have h6f : (lAt l k == 2) = false := by simpa using h6
          rw [← e5] at *;simp (disch := omega) [go_sem, hn, h, zBb, h5, hm, hkl, h6f];refine zAb (k + 1) (by omega) (by omega) (Le.mk [(0, some 0), (16, some 16), (288, some 288), (304, some 304)] [0, 16, 288, 304] ⟨rfl, rfl, rfl⟩ ?_ ?_ ?_) <;> simp [go_sem]
        ·rw [if_neg (by omega)] at e5
         rw [← e5] at *;simp (disch := omega) [go_sem, hn, h, zBb, h5, hm, hkl];refine zAb (k + 1) (by omega) (by omega) (Le.mk [(0, some 0), (16, some 16), (288, some 288), (304, some 304)] [0, 16, 288, 304] ⟨rfl, rfl, rfl⟩ ?_ ?_ ?_) <;> simp [go_sem]
       ·have hkk : k = g.length := by omega
        subst hkk;have h21 : ad2 s g l g.length = admG s g l := rfl;rw [h21] at *;simp (disch := omega) [go_sem];exact ⟨e1.symm, zAt (by simp [go_sem])⟩
  ·rw [hv2 h1 (.inl rfl)];simp (disch := omega) [go_sem];refine zAf q3 [] [] [] [] ?_ ?_ ?_ (.inl ⟨rfl, .inl rfl⟩) (fun _ => ?_)
   iterate 3 (· simp [go_sem])
   simp (disch := omega) [go_sem];exact zAt (by simp [go_sem])
 ·rw [hv1 h1];simp (disch := omega) [go_sem];refine zAf q2 [] [] [] [] ?_ ?_ ?_ (.inl ⟨rfl, .inl rfl⟩) (fun _ => ?_)
  iterate 3 (· simp [go_sem])
  simp (disch := omega) [go_sem];try exact zAt (by simp [go_sem])
noncomputable def zQx (s : Sit) (w : SafN) (l : List Int) : Int := if zTw s w ≠ 0 then zTw s w else if l.length ≠ s.groups.length then 90 else 0
theorem xFa {s : Sit} {w : SafN} (h : zTw s w = 0) : zAk s ∧ w.groups.length = s.groups.length := by
 unfold zTw at h
 by_cases hs : zAk s
 ·refine ⟨hs, ?_⟩;have e : zAm s = 0 := by unfold zAm; rw [if_pos hs]
  rw [if_neg (by omega)] at h
  cases hg : zYp s w
  ·rw [hg, if_pos rfl] at h; exact absurd h (by decide)
  ·unfold zYp at hg;simp only [Bool.and_eq_true, beq_iff_eq] at hg;exact hg.1
 ·have e : zAm s = 50 := by unfold zAm; rw [if_neg hs]
  rw [e, if_pos (by decide)] at h
  exact absurd h (by decide)
noncomputable def zPf (s : Sit) (w : SafN) (l : List Int) : List Int := if zQx s w l = 0 then zCd s w.groups w.start w.flashed l else []
theorem yPi (s : Sit) (w : SafN) (l : List Int) : FnD Tryz.prog 45 [sitV s, safV w, .sl 1 (lts l)] (.tup [.sl 1 (lts (zPf s w l)), .int .i64 (zQx s w l)]) tabG := by
 have qc := yUh s w
 have hok := xFa (s := s) (w := w)
 have qa := fun hs h1 h2 => yPd s w.groups w.start w.flashed l hs h1 h2
 have hE : zQx s w l = if zTw s w ≠ 0 then zTw s w else if l.length ≠ s.groups.length then 90 else 0 := rfl
 have hL : zPf s w l = if zQx s w l = 0 then zCd s w.groups w.start w.flashed l else [] := rfl
 generalize zPf s w l = rl at *
 generalize zQx s w l = re at *
 generalize zTw s w = c at *
 obtain ⟨g, st, fl⟩ := w
 unfold safV sitV at *
 simp only at *
 by_cases hc : c = 0
 ·subst hc;obtain ⟨hs, hg⟩ := hok rfl;by_cases hl : l.length = s.groups.length
  ·rw [if_neg (by simp), if_neg (by omega)] at hE
   subst hE;rw [if_pos rfl] at hL;subst hL;have q2 := qa (zMc hs) hg hl;refine zAd mixed Tryz.func45 rfl rfl (by simp [Tryz.ntmps45]) fun hwf E => ?_
   clear hwf;simp (disch := omega) [Tryz.ntmps45, go_sem];refine zAa qc [] (by simp [go_sem]) (.inl rfl) (by simp [go_sem]) (fun _ => ?_) (by simp [tabG, go_sem])
   simp (disch := omega) [go_sem];refine zAc (fun h1 => ?_) (fun h1 => ?_) <;> simp at h1
   ·exact absurd hl (by omega)
   ·simp (disch := omega) [go_sem];refine zAa q2 [] (by simp [go_sem]) (.inl rfl) (by simp [go_sem]) (fun _ => ?_)
    simp (disch := omega) [go_sem]
  ·rw [if_neg (by simp), if_pos hl] at hE
   subst hE;rw [if_neg (by decide)] at hL
   subst hL;refine zAd mixed Tryz.func45 rfl rfl (by simp [Tryz.ntmps45]) fun hwf E => ?_
   clear hwf;simp (disch := omega) [Tryz.ntmps45, go_sem];refine zAa qc [] (by simp [go_sem]) (.inl rfl) (by simp [go_sem]) (fun _ => ?_) (by simp [tabG, go_sem])
   simp (disch := omega) [go_sem];refine zAc (fun h1 => ?_) (fun h1 => ?_) <;> simp at h1
   ·simp (disch := omega) [go_sem, lts]
   ·exact absurd h1 (by omega)
 ·rw [if_pos hc] at hE;subst hE;rw [if_neg hc] at hL;subst hL;refine zAd mixed Tryz.func45 rfl rfl (by simp [Tryz.ntmps45]) fun hwf E => ?_
  clear hwf;simp (disch := omega) [Tryz.ntmps45, go_sem];refine zAa qc [] (by simp [go_sem]) (.inl rfl) (by simp [go_sem]) (fun _ => ?_) (by simp [tabG, go_sem])
  simp (disch := omega) [go_sem];refine zAc (fun h1 => ?_) (fun h1 => ?_) <;> simp at h1
  ·simp (disch := omega) [go_sem, lts]
  ·exact absurd h1 hc
end
section
def zVf (s : Sit) (w : SafN) : Prop := mayS s w = true ∧ ∀ x ∈ w.groups, zPq w x = false
theorem yFa {l : List Seen} {i : Nat} (h : i < l.length) : sAt l i ∈ l := by rw [yIe h]; exact List.getElem_mem h
theorem xDv {s : Sit} {w : SafN} (hs : zAk s) (h : zVf s w) : zYp s w = true := by
 obtain ⟨h1, h2⟩ := h
 have h3 := zFk h1
 have e : zAm s = 0 := by unfold zAm; rw [if_pos hs]
 unfold zYp zWl
 rw [e, if_neg (by simp), if_neg (by rw [h1]; simp)]
 simp [h3.1]
 intro x hx
 exact h2 x hx
theorem zOb {s : Sit} {l : List Int} : zOc s l = false ↔ ∀ a, a < l.length → ∀ b, b < a → lAt l a ≠ 1 → lAt l b ≠ 1 → isAp s a b = false := by
 unfold zOc
 rw [zDn]
 constructor
 ·intro h a ha b hb h1 h2;have := h a ha;unfold mtA ySx at this;rw [show (lAt l a != 1) = true by simpa using h1, Bool.true_and, zDn] at this
  have := this b hb;unfold mtB at this;rw [show (lAt l b != 1) = true by simpa using h2, Bool.true_and] at this
  exact this
 ·intro h a ha;unfold mtA ySx;by_cases h1 : lAt l a = 1
  ·simp [h1]
  ·rw [show (lAt l a != 1) = true by simpa using h1, Bool.true_and, zDn]
   intro b hb;unfold mtB;by_cases h2 : lAt l b = 1
   ·simp [h2]
   ·rw [show (lAt l b != 1) = true by simpa using h2, Bool.true_and]
    exact h a ha b hb h1 h2
theorem zWy {s : Sit} {g : List Seen} {l : List Int} : zOv s g l = false ↔ ∀ a, a < g.length → lAt l a = 2 → (sAt g a).aspect ≠ 2 → ∀ k, k < g.length → isAp s k a = true → betw s k a ≤ (sAt g k).ended := by
 unfold zOv
 rw [zDn]
 constructor
 ·intro h a ha h1 h2 k hk h3;have := h a ha;unfold clA clT at this;rw [show (lAt l a != 2) = false by simpa using h1, show ((sAt g a).aspect == 2) = false by simpa using h2] at this
  simp only [Bool.or_self, Bool.not_false, Bool.true_and] at this;unfold clI at this;rw [zDn] at this;have := this k hk;unfold clB at this;rw [h3, Bool.true_and, decide_eq_false_iff_not] at this;omega
 ·intro h a ha;unfold clA clT;by_cases h1 : lAt l a = 2
  ·by_cases h2 : (sAt g a).aspect = 2
   ·simp [h2]
   ·rw [show (lAt l a != 2) = false by simpa using h1, show ((sAt g a).aspect == 2) = false by simpa using h2]
    simp only [Bool.or_self, Bool.not_false, Bool.true_and];unfold clI;rw [zDn];intro k hk;unfold clB;cases h3 : isAp s k a
    ·rfl
    ·have := h a ha h1 h2 k hk h3;rw [Bool.true_and, decide_eq_false_iff_not]; omega
  ·simp [h1]
theorem zYv {s : Sit} {g : List Seen} {l : List Int} : ∀ n, (∀ k, k < n → zLy (gAt s k) (sAt g k) (lAt l k) = 0) → ffK s g l n = 0
 | 0, _ => rfl
 | n + 1, h => by
  have ih := zYv n (fun k hk => h k (by omega))
  show (if ffK s g l n ≠ 0 then _ else _) = _
  rw [if_neg (by rw [ih]; simp)]
  exact h n (by omega)
def newg (s : Sit) (g : List Seen) (l : List Int) (j : Nat) : Prop := ((sAt g j).aspect = 1 ∧ lAt l j = 2) ∧ blkN s g (ad2 s g l j) j = false
theorem xQc {l : List Int} {k : Nat} {x : Int} (h : k < l.length) (j : Nat) : lAt (l.set k x) j = if j = k then x else lAt l j := by
 unfold lAt
 by_cases e : j = k
 ·subst e; simp [h]
 ·rw [if_neg e, List.getElem?_set_ne (by omega)]
theorem xAz {s : Sit} {g : List Seen} {l : List Int} : ∀ k, k ≤ g.length → ∀ j, (j < k → newg s g l j → lAt (ad2 s g l k) j = 2) ∧ (¬ (j < k ∧ newg s g l j) → lAt (ad2 s g l k) j = lAt (ad1 s g l g.length) j)
 | 0, _, j => ⟨fun h => absurd h (Nat.not_lt_zero j), fun _ => rfl⟩
 | k + 1, hk, j => by
  obtain ⟨h1, h2⟩ := xAz (s := s) (g := g) (l := l) k (by omega) j
  have hl := zUr s g l k;have hstep : ad2 s g l (k + 1) = if ((sAt g k).aspect = 1 ∧ lAt l k = 2) ∧ blkN s g (ad2 s g l k) k = false then (ad2 s g l k).set k 2 else ad2 s g l k := rfl
  by_cases hn : newg s g l k
  ·have hn2 := hn;unfold newg at hn2;rw [if_pos hn2] at hstep;rw [hstep, xQc (by omega)]
   by_cases e : j = k
   ·subst e;rw [if_pos rfl];exact ⟨fun _ _ => rfl, fun h => absurd ⟨by omega, hn⟩ h⟩
   ·rw [if_neg e];exact ⟨fun h a => h1 (by omega) a, fun h => h2 (fun h3 => h ⟨by omega, h3.2⟩)⟩
  ·have hn2 := hn;unfold newg at hn2;rw [if_neg hn2] at hstep;rw [hstep];by_cases e : j = k
   ·subst e;exact ⟨fun _ h => absurd h hn, fun h => h2 (fun h3 => hn h3.2)⟩
   ·exact ⟨fun h a => h1 (by omega) a, fun h => h2 (fun h3 => h ⟨by omega, h3.2⟩)⟩
theorem xMw {s : Sit} {g : List Seen} {l : List Int} {j : Nat} (h : j < g.length) : lAt (ad1 s g l g.length) j = ad1A s g l j := by
 have hl := zZj s g l g.length
 rw [zIx (by omega)]
 simp [ad1, h]
theorem zSa (s : Sit) (g : List Seen) (l : List Int) : (admG s g l).length = g.length := zUr s g l _
theorem yKv {s : Sit} {g : List Seen} {l : List Int} {j : Nat} (h : (sAt g j).aspect = 1) : ad1A s g l j = 1 := by
 unfold ad1A; rw [if_neg (by simpa using h)]
theorem xBh (g : Grp) (s : Seen) (a : Int) : 1 ≤ zUv g s a ∧ zUv g s a ≤ 3 := by unfold zUv; (repeat' split) <;> omega
theorem xTw {s : Sit} {g : List Seen} {l : List Int} (j : Nat) : 1 ≤ ad1A s g l j ∧ ad1A s g l j ≤ 3 := by
 unfold ad1A; split
 ·exact xBh _ _ _
 ·omega
theorem zLc {s : Sit} {g : List Seen} {l : List Int} {j : Nat} (hj : j < g.length) : (newg s g l j ∧ lAt (admG s g l) j = 2) ∨ (¬ newg s g l j ∧ lAt (admG s g l) j = ad1A s g l j) := by
 obtain ⟨h1, h2⟩ := xAz (s := s) (g := g) (l := l) g.length (Nat.le_refl _) j
 by_cases h : newg s g l j
 ·exact .inl ⟨h, h1 hj h⟩
 ·exact .inr ⟨h, by rw [← xMw hj]; exact h2 (fun h3 => h h3.2)⟩
theorem xPz {g : Grp} {s : Seen} {a : Int} (h1 : 1 ≤ s.aspect ∧ s.aspect ≤ 3) (h2 : s.aspect ≠ 1) : zLy g s (zUv g s a) = 0 := by
 obtain ⟨sp, si, en⟩ := s
 simp only at h1 h2
 have h3 : sp = 2 ∨ sp = 3 := by omega
 unfold zLy zUv yBq yGl
 rcases h3 with rfl | rfl
 ·simp only [show ((2 : Int) = 1) = False by simp, if_false, if_true]
  by_cases hc : a = 2 ∨ zMv si < g.min
  ·rw [if_pos hc]; simp
  ·rw [if_neg hc];simp;omega
 ·simp only [show ((3 : Int) = 1) = False by simp, show ((3 : Int) = 2) = False by simp, if_false, if_true]
  by_cases hc : zMv si < g.yellow
  ·rw [if_pos hc]; simp; omega
  ·rw [if_neg hc]; simp; omega
theorem yKk {s : Sit} {g : List Seen} {out : List Int} {i : Nat} : blkN s g out i = false ↔ ∀ k, k < g.length → isAp s i k = true → lAt out k = 1 ∧ betw s k i ≤ (sAt g k).ended := by
 unfold blkN
 rw [zDn]
 constructor
 ·intro h k hk h1;have := h k hk;unfold blkB at this;rw [h1, Bool.true_and] at this;simp at this;exact ⟨this.1, by omega⟩
 ·intro h k hk;unfold blkB;cases h1 : isAp s i k
  ·rfl
  ·obtain ⟨h2, h3⟩ := h k hk h1;simp [h2]; omega
theorem xTr {s : Sit} (hA : zHu s) {a b : Nat} (ha : a < s.groups.length) (hb : b < s.groups.length) : isAp s a b = isAp s b a := ((hA a ha).2 b hb).1
theorem xAx {s : Sit} (hs : zAk s) {g : List Seen} {l : List Int} (hg : g.length = s.groups.length) (hm : zOc s (zBi g) = false) (ha : ∀ x ∈ g, 1 ≤ x.aspect ∧ x.aspect ≤ 3) :
  (∀ k, k < g.length → zLy (gAt s k) (sAt g k) (lAt (admG s g l) k) = 0) ∧ zOc s (admG s g l) = false ∧ zOv s g (admG s g l) = false := by
 have hsy : ∀ a b, a < g.length → b < g.length → isAp s a b = isAp s b a := fun a b h1 h2 => xTr hs.apart (by omega) (by omega)
 rw [zOb, zDs] at hm
 have hsh : ∀ k, k < g.length → lAt (zBi g) k = (sAt g k).aspect := fun k hk => by
  rw [zIx (by rw [zDs]; exact hk), yIe hk]; simp [zBi]
 refine ⟨fun k hk => ?_, ?_, ?_⟩
 ·have h1 := ha _ (yFa hk);rcases zLc (s := s) (l := l) hk with ⟨h2, h3⟩ | ⟨h2, h3⟩
  ·rw [h3];obtain ⟨⟨h4, _⟩, _⟩ := h2;unfold zLy yBq yGl;rw [h4];simp
  ·rw [h3];by_cases h4 : (sAt g k).aspect = 1
   ·rw [yKv h4];unfold zLy yBq yGl;rw [h4];simp
   ·unfold ad1A;rw [if_pos h4];exact xPz h1 h4
 ·rw [zOb, zSa];intro a ha2 b hb h1 h2;have hbl : b < g.length := by omega
  -- what was not red was not red before, unless it is new
  have key : ∀ j, j < g.length → lAt (admG s g l) j ≠ 1 → ¬ newg s g l j → (sAt g j).aspect ≠ 1 := fun j hj h3 h4 h5 => by
   rcases zLc (s := s) (l := l) hj with ⟨h6, _⟩ | ⟨_, h6⟩
   ·exact h4 h6
   ·rw [h6, yKv h5] at h3; exact h3 rfl
  have new : ∀ i j, i < g.length → j < g.length → i ≠ j → newg s g l i → lAt (admG s g l) j ≠ 1 → (newg s g l j → j < i) → isAp s i j = false := fun i j hi hj hij h3 h4 h5 => by
   have h6 := h3.2;rw [yKk] at h6;cases hap : isAp s i j
   ·rfl
   ·exfalso
    have h7 := (h6 j hj hap).1;obtain ⟨e1, e2⟩ := xAz (s := s) (g := g) (l := l) i (by omega) j
    by_cases hn : newg s g l j
    ·rw [e1 (h5 hn) hn] at h7; exact absurd h7 (by decide)
    ·rw [e2 (fun h => hn h.2), xMw hj] at h7
     rcases zLc (s := s) (l := l) hj with ⟨h8, _⟩ | ⟨_, h8⟩
     ·exact hn h8
     ·rw [h8] at h4; exact h4 h7
  by_cases na : newg s g l a
  ·exact new a b ha2 hbl (by omega) na h2 (fun _ => hb)
  ·by_cases nb : newg s g l b
   ·rw [hsy a b ha2 hbl];exact new b a hbl ha2 (by omega) nb h1 (fun h => absurd h na)
   ·have k1 := key a ha2 h1 na;have k2 := key b hbl h2 nb;exact hm a ha2 b hb (by rw [hsh a ha2]; exact k1) (by rw [hsh b hbl]; exact k2)
 ·rw [zWy];intro a ha2 h1 h2 k hk h3;rcases zLc (s := s) (l := l) ha2 with ⟨h4, _⟩ | ⟨h4, h5⟩
  ·have h6 := h4.2;rw [yKk] at h6;exact (h6 k hk (by rw [hsy a k ha2 hk]; exact h3)).2
  ·exfalso
   rw [h5] at h1;unfold ad1A zUv at h1;have h7 := ha _ (yFa ha2);have h8 : (sAt g a).aspect = 1 ∨ (sAt g a).aspect = 3 := by omega
   rcases h8 with h8 | h8
   ·rw [if_neg (by simpa using h8)] at h1; exact absurd h1 (by decide)
   ·rw [if_pos (by omega), if_neg (by omega), if_neg (by omega), if_pos h8] at h1
    split at h1 <;> exact absurd h1 (by decide)
theorem zTx {l : List Int} (h : zDp l = true) : ∀ x ∈ l, x = 4 := by
 unfold zDp at h
 simpa using h
theorem yHq {s : Sit} {g : List Seen} {l : List Int} : ∀ x ∈ admG s g l, 1 ≤ x ∧ x ≤ 3 := by
 intro x hx
 obtain ⟨j, hj, rfl⟩ := List.getElem_of_mem hx
 have hj2 : j < g.length := by rw [zSa] at hj; exact hj
 rw [← zIx hj]
 rcases zLc (s := s) (l := l) hj2 with ⟨_, h⟩ | ⟨_, h⟩
 ·rw [h]; omega
 ·rw [h]; exact xTw j
theorem yJj {l : List Int} (h0 : 0 < l.length) (h : ∀ x ∈ l, x ≠ 4) : zDp l = false := by
 cases hf : zDp l
 ·rfl
 ·have := zTx hf _ (List.getElem_mem h0);exact absurd this (h _ (List.getElem_mem h0))
theorem zXv (n k : Nat) (h : k < n) : lAt (List.replicate n 1) k = 1 := by rw [zIx (by simpa using h)]; simp
theorem yDh {s : Sit} {w : SafN} {l : List Int} (hl : l.length = s.groups.length) (hw : w.groups.length = s.groups.length) : (zCd s w.groups w.start w.flashed l).length = s.groups.length := by
 unfold zCd
 split
 ·exact hl
 ·split
  ·simpa using hl
  ·rw [zSa]; exact hw
theorem zPs {s : Sit} (hs : zAk s) {w : SafN} {l : List Int} (hw : zVf s w) (hl : l.length = s.groups.length) : zCj s w.groups w.start w.flashed (zCd s w.groups w.start w.flashed l) = 0 := by
 obtain ⟨hm, hq⟩ := hw
 have hlen := zFk hm
 have h1 : 1 ≤ s.groups.length := hs.shaped.1.1
 have hal := yDh (w := w) hl hlen.1
 unfold zCj
 rw [if_neg (by omega)]
 by_cases hf : zDp l = true
 ·have : zCd s w.groups w.start w.flashed l = l := by unfold zCd; rw [if_pos hf]
  rw [this, if_pos hf]
 ·by_cases h2 : w.flashed = true ∨ 0 < w.start
  ·have e : zCd s w.groups w.start w.flashed l = List.replicate l.length 1 := by unfold zCd; rw [if_neg hf, if_pos h2]
   rw [e, if_neg (by rw [yJj (by simp; omega) (by simp)]; simp), if_neg (by simp), if_neg (by simp)]
   have hmt : zOc s (List.replicate l.length 1) = false := by
    rw [zOb];intro a ha b hb h3;rw [zXv _ _ (by simpa using ha)] at h3
    exact absurd rfl h3
   have hcl : zOv s w.groups (List.replicate l.length 1) = false := by
    rw [zWy];intro a ha h3;rw [zXv _ _ (by omega)] at h3
    exact absurd h3 (by decide)
   unfold zJw;rw [if_neg, if_neg (by rw [hmt]; simp), if_neg (by rw [hcl]; simp)]
   rintro ⟨h3, h4⟩
   have h5 : 0 < w.start := by
    rcases h2 with h2 | h2
    ·rw [h2] at h3; cases h3
    ·exact h2
   refine h4 (zYv _ fun k hk => ?_)
   have h6 := hq _ (yFa hk);unfold zPq at h6;rw [h3] at h6;simp [h5] at h6;rw [zXv _ _ (by omega)]
   unfold zLy yBq yGl;rw [h6.2];simp
  ·have e : zCd s w.groups w.start w.flashed l = admG s w.groups l := by unfold zCd; rw [if_neg hf, if_neg h2]
   have hfl : w.flashed = false := by
    cases h : w.flashed
    ·rfl
    ·exact absurd (.inl h) h2
   have ha : ∀ x ∈ w.groups, 1 ≤ x.aspect ∧ x.aspect ≤ 3 := fun x hx => by
    have h6 := hq x hx;unfold zPq at h6;rw [hfl] at h6;simp at h6;omega
   have hmS : zOc s (zBi w.groups) = false := by
    unfold mayS at hm;simp only [Bool.and_eq_true, Bool.or_eq_true, Bool.not_eq_true'] at hm;rcases hm.2 with h | h
    ·have h7 : 0 < (zBi w.groups).length := by rw [zDs]; omega
     have h8 := zTx h _ (List.getElem_mem h7);have h9 := ha (w.groups[0]'(by omega)) (List.getElem_mem _)
     simp [zBi] at h8;omega
    ·exact h
   obtain ⟨g1, g2, g3⟩ := xAx (l := l) hs hlen.1 hmS ha;rw [e, if_neg (by rw [yJj (by rw [zSa]; omega) (fun x hx => by have := yHq x hx; omega)]; simp), if_neg (fun h => by have := yHq _ h; omega)]
   rw [if_neg (by rw [hfl]; simp; intro h; exact absurd (.inr h) h2)]
   unfold zJw;rw [if_neg (fun h => h.2 (zYv _ g1)), if_neg (by rw [g2]; simp), if_neg (by rw [g3]; simp)]
theorem yKl (s : Sit) {w : SafN} {l : List Int} (hl : l.length = w.groups.length) : zBi (zBj s w l).groups = l := by
 apply List.ext_getElem (by rw [zDs]; show (bhK s w.groups l _).length = _; rw [zUm]; omega)
 intro i h1 h2
 have hi : i < w.groups.length := by omega
 simp only [zBj, bhG, bhK, zBi, List.getElem_map, List.getElem_range]
 rw [if_pos hi]
 simp [zYe, lAt, h2]
theorem zXe {s : Sit} (hs : zAk s) {w : SafN} {l : List Int} (hm : mayS s w = true) (hf : zCj s w.groups w.start w.flashed l = 0) : mayS s (zBj s w l) = true := by
 have hlen := zFk hm
 have hl := zWu hf
 obtain ⟨b1, b2, b3⟩ := yZu (l := l) (zMc hs) hlen
 unfold mayS
 rw [yKl s (by omega)]
 simp only [Bool.and_eq_true, beq_iff_eq, decide_eq_true_eq, Bool.or_eq_true, Bool.not_eq_true']
 refine ⟨⟨⟨b1, b2⟩, b3⟩, ?_⟩
 unfold zCj at hf
 rw [if_neg (by omega)] at hf
 by_cases h1 : zDp l = true
 ·exact .inl h1
 ·right
  rw [if_neg h1] at hf;split at hf
  ·exact absurd hf (by decide)
  ·split at hf
   ·exact absurd hf (by decide)
   ·unfold zJw at hf;split at hf
    ·rename_i h; exact absurd hf h.2
    ·split at hf
     ·exact absurd hf (by decide)
     ·rename_i h; simpa using h
theorem xMr {s : Sit} {w : SafN} {l : List Int} (hl : l.length = w.groups.length) {x : Seen} (hx : x ∈ (zBj s w l).groups) : x.aspect ∈ l := by
 have h := yKl s (w := w) (l := l) hl
 rw [← h]
 exact List.mem_map_of_mem hx
theorem yUs {s : Sit} (hs : zAk s) {w : SafN} (hw : mayS s w = true) : zVf s (zBj s w (List.replicate s.groups.length 4)) := by
 have hlen := zFk hw
 have hfl : zDp (List.replicate s.groups.length 4) = true := by unfold zDp; simp
 have hf : zCj s w.groups w.start w.flashed (List.replicate s.groups.length 4) = 0 := by
  unfold zCj; rw [if_neg (by simp), if_pos hfl]
 refine ⟨zXe hs hw hf, fun x hx => ?_⟩
 have h1 := xMr (by simpa using hlen.1.symm) hx
 have h2 : x.aspect = 4 := by simpa using (List.mem_replicate.1 h1).2
 unfold zPq
 rw [show (zBj s w (List.replicate s.groups.length 4)).flashed = true from hfl]
 simp [h2]
theorem zTy {s : Sit} (w : SafN) : zCj s w.groups w.start w.flashed (List.replicate s.groups.length 4) = 0 := by
 have hfl : zDp (List.replicate s.groups.length 4) = true := by unfold zDp; simp
 unfold zCj; rw [if_neg (by simp), if_pos hfl]
theorem yUt {s : Sit} (hs : zAk s) : zVf s (zHn s) := by
 have hz := zYo (zMc hs)
 have h1 : zBi (zHn s).groups = List.replicate s.groups.length 1 := by simp [zHn, zBi]
 refine ⟨?_, fun x hx => ?_⟩
 ·unfold mayS;rw [h1];simp only [Bool.and_eq_true, beq_iff_eq, decide_eq_true_eq, Bool.or_eq_true, Bool.not_eq_true'];refine ⟨⟨⟨by simp [zHn], hz.1⟩, hz.2⟩, .inr ?_⟩
  rw [zOb];intro a ha b hb h3;rw [zXv _ _ (by simpa using ha)] at h3
  exact absurd rfl h3
 ·have h2 : x = ⟨1, 1, 1048576⟩ := (List.mem_replicate.1 hx).2;subst h2;unfold zPq zHn;simp
theorem xEz {s : Sit} (hs : zAk s) {w : SafN} {l : List Int} (hw : zVf s w) (hl : l.length = s.groups.length) : zVf s (zBj s w (zCd s w.groups w.start w.flashed l)) := by
 have hlen := zFk hw.1
 have hal := yDh (w := w) hl hlen.1
 refine ⟨zXe hs hw.1 (zPs hs hw hl), fun x hx => ?_⟩
 have h1 := xMr (by omega) hx
 unfold zPq
 cases hf : zDp (zCd s w.groups w.start w.flashed l) with
 | true =>
  rw [show (zBj s w (zCd s w.groups w.start w.flashed l)).flashed = true from hf]
  simp [zTx hf _ h1]
 | false =>
  rw [show (zBj s w (zCd s w.groups w.start w.flashed l)).flashed = false from hf]
  have hst : (zBj s w (zCd s w.groups w.start w.flashed l)).start = bhT s w.start w.flashed (zCd s w.groups w.start w.flashed l) := rfl;rw [hst];have hfl : zDp l ≠ true := fun h => by
   have e : zCd s w.groups w.start w.flashed l = l := by unfold zCd; rw [if_pos h]
   rw [e, h] at hf; cases hf
  by_cases h2 : w.flashed = true ∨ 0 < w.start
  ·have e : zCd s w.groups w.start w.flashed l = List.replicate l.length 1 := by unfold zCd; rw [if_neg hfl, if_pos h2]
   rw [e] at h1;have h3 := (List.mem_replicate.1 h1).2;simp [h3]
  ·have e : zCd s w.groups w.start w.flashed l = admG s w.groups l := by unfold zCd; rw [if_neg hfl, if_neg h2]
   rw [e] at h1;have h3 := yHq _ h1;have h4 : bhT s w.start w.flashed (zCd s w.groups w.start w.flashed l) ≤ 0 := by
    unfold bhT;rw [if_neg (by rw [hf]; simp), if_neg (fun h => h2 (.inl h))]
    have := fun h => h2 (.inr h)
    unfold maxI;split <;> omega
   simp;omega
theorem xLj {s : Sit} (hs : zAk s) {w : SafN} {l : List Int} (hw : zVf s w) (hl : l.length = s.groups.length) : zPf s w l = zCd s w.groups w.start w.flashed l := by
 have e : zAm s = 0 := by unfold zAm; rw [if_pos hs]
 have hg := xDv hs hw
 have hk : zTw s w = 0 := by unfold zTw; rw [e, if_neg (by simp), if_neg (by simp [hg])]
 have hE : zQx s w l = 0 := by unfold zQx; rw [hk, if_neg (by simp), if_neg (by simp [hl])]
 unfold zPf
 rw [if_pos hE]
end
section
structure zCv where
 up : Bool
 same : Int
 turns : Int
 bad : Bool
 well : Int
def zCo (x : zCv) : V := .agg [.bool x.up, .int .i64 x.same, .int .u64 x.turns, .bool x.bad, .int .i64 x.well]
theorem zWb (l : List zCv) : zAz (l.map zCo) := zBd _ (fun c => by simp [zCo, go_sem]) l
attribute [go_sem] zWb
def kAt (l : List zCv) (i : Nat) : zCv := l[i]?.getD ⟨false, 0, 0, false, 0⟩
theorem xMg {l : List zCv} {i : Nat} (h : i < l.length) : kAt l i = l[i] := by simp [kAt, h]
theorem nthK {l : List zCv} {k : Nat} (h : k < l.length) : nth (l.map zCo) k = zCo (kAt l k) := by rw [xMg h]; exact zBs h
def yDl (x : zCv) : Prop := 0 ≤ x.same ∧ 0 ≤ x.well ∧ x.same ≤ 1048576 ∧ x.well ≤ 1048576 ∧ (x.bad = true ∨ x.well = 0)
noncomputable def mayK (x : zCv) : Bool := open Classical in decide (yDl x)
theorem yIt {x : zCv} : mayK x = true ↔ yDl x := by unfold mayK; simp
theorem zZe (x : zCv) : FnD Tryz.prog 158 [zCo x] (.bool (!x.bad)) := by
 unfold zCo
 refine zAd mixed Tryz.func158 rfl rfl (by simp [Tryz.ntmps158]) fun hwf E => ?_
 clear hwf
 simp (disch := omega) [Tryz.ntmps158, go_sem]
theorem yLa (x : zCv) : FnD Tryz.prog 200 [zCo x] (.bool (x.up || x.bad)) := by
 unfold zCo
 refine zAd mixed Tryz.func200 rfl rfl (by simp [Tryz.ntmps200]) fun hwf E => ?_
 clear hwf
 simp (disch := omega) [Tryz.ntmps200, go_sem]
theorem yYr (x : zCv) : FnD Tryz.prog 198 [zCo x] (.bool (mayK x)) := by
 have hi := yIt (x := x)
 generalize mayK x = r at *
 obtain ⟨u, s, t, b, w⟩ := x
 unfold yDl at hi
 unfold zCo
 simp only at *
 obtain ⟨mn, hmn⟩ : ∃ mn, (if w < s then w else s) = mn := ⟨_, rfl⟩
 obtain ⟨mx, hmx⟩ : ∃ mx, (if s < w then w else s) = mx := ⟨_, rfl⟩
 have hmn2 : mn ≤ w ∧ mn ≤ s ∧ (mn = w ∨ mn = s) := by rw [← hmn]; split <;> omega
 have hmx2 : w ≤ mx ∧ s ≤ mx ∧ (mx = w ∨ mx = s) := by rw [← hmx]; split <;> omega
 refine zAd mixed Tryz.func198 rfl rfl (by simp [Tryz.ntmps198]) fun hwf E => ?_
 clear hwf
 simp (disch := omega) [Tryz.ntmps198, go_sem]
 rw [hmn, hmx, Bool.eq_iff_iff, hi]
 cases b <;> simp <;> omega
def zHh (s : Nat) (i : Int) : Nat := s ||| bitN i
theorem zJd {s : Nat} (hs : s < 4294967296) (i : Int) : zHh s i < 4294967296 := xDo hs (zGc i)
theorem zZo (s : Nat) (i : Int) (hs : s < 4294967296) : FnD Tryz.prog 157 [.int .u32 s, .int .i64 i] (.int .u32 (zHh s i)) := by
 have q := zZc i
 have hb := zGc i
 unfold zHh
 refine zAd mixed Tryz.func157 rfl rfl (by simp [Tryz.ntmps157]) fun hwf E => ?_
 clear hwf
 simp (disch := omega) [Tryz.ntmps157, go_sem]
 refine zAa q [] (by simp [go_sem]) (.inl rfl) (by simp [go_sem]) (fun _ => ?_)
 simp (disch := omega) [go_sem]
noncomputable def zFq (s : Sit) (l : List zCv) : Int := if zAm s ≠ 0 then zAm s else if l.length ≠ s.eyes.length then 4 else if anyR l.length (fun i => !mayK (kAt l i)) = true then 8 else 0
theorem yCg (s : Sit) (l : List zCv) : FnD Tryz.prog 151 [sitV s, .sl 5 (l.map zCo)] (.int .i64 (zFq s l)) tabG := by
 have qc := zCe s
 have hE : zFq s l = if zAm s ≠ 0 then zAm s else if l.length ≠ s.eyes.length then 4 else if anyR l.length (fun i => !mayK (kAt l i)) = true then 8 else 0 := rfl
 generalize zFq s l = r at *
 generalize zAm s = c at *
 have hq : ∃ Q : Nat → Bool, Q = (fun i => !mayK (kAt l i)) := ⟨_, rfl⟩
 obtain ⟨Q, hQ⟩ := hq
 rw [← hQ] at hE
 have hQk : ∀ k, Q k = !mayK (kAt l k) := fun k => by rw [hQ]
 clear hQ
 unfold sitV at *
 refine zAd mixed Tryz.func151 rfl rfl (by simp [Tryz.ntmps151]) fun hwf E => ?_
 simp (disch := omega) [go_sem] at hwf
 simp (disch := omega) [Tryz.ntmps151, go_sem]
 refine zAa qc [] (by simp [go_sem]) (.inl rfl) (by simp [go_sem]) (fun _ => ?_) (by simp [tabG, go_sem])
 simp (disch := omega) [go_sem]
 refine zAc (fun h1 => ?_) (fun h1 => ?_) <;> simp at h1
 ·rw [if_pos h1] at hE;simp (disch := omega) [go_sem, hE]
 ·rw [if_neg (by omega)] at hE
  simp (disch := omega) [go_sem];refine zAc (fun h2 => ?_) (fun h2 => ?_) <;> simp at h2
  ·rw [if_pos (by omega)] at hE
   simp (disch := omega) [go_sem, hE]
  ·rw [if_neg (by omega)] at hE
   simp (disch := omega) [go_sem];refine zAe mixed (fun k : Nat => ⟨[(21, .int .i64 k), (20, .int .i64 l.length), (19, .sl 5 (l.map zCo))], [], 1024, [], 29, 0, tabG⟩) (fun k => k ≤ l.length ∧ ∀ i, i < k → Q i = false) (fun k => l.length - k) 0 ?_ ?_ ?_
   ·exact ⟨by omega, fun i hi => absurd hi (Nat.not_lt_zero i)⟩
   ·refine Le.mk [] [] ⟨rfl, rfl, rfl⟩ ?_ ?_ ?_ <;> simp [go_sem]
   ·rintro k ⟨hk, hno⟩
    simp (disch := omega) [go_sem];refine zAc (fun h => ?_) (fun h => ?_) <;> simp at h
    ·have hn := nthK h;have q2 := yYr (kAt l k);simp only [zCo] at q2;simp (disch := omega) [go_sem, hn, h, zCo];refine zAj q2 [] (by simp [go_sem]) (fun h5 => ?_) (fun h5 => ?_) <;> try simp [inN] at h5
     ·simp (disch := omega) [go_sem];have hno2 := zLv hno (by rw [hQk, h5]; rfl : Q k = false)
      refine zAb (k + 1) (⟨by omega, hno2⟩) (by omega) (Le.mk [] [] ⟨rfl, rfl, rfl⟩ ?_ ?_ ?_) <;> simp [go_sem]
     ·rw [zGf h (by rw [hQk, h5]; rfl), if_pos rfl] at hE
      simp (disch := omega) [go_sem, hE]
    ·have hkk : k = l.length := by omega
     subst hkk;rw [zJp hno, if_neg (by decide)] at hE
     simp (disch := omega) [go_sem, hE]
end
section
def eAt (s : Sit) (i : Nat) : Eye := s.eyes[i]?.getD ⟨0, 0, 0, 0⟩
theorem yYt {s : Sit} {i : Nat} (h : i < s.eyes.length) : eAt s i = s.eyes[i] := by simp [eAt, h]
theorem nthE {s : Sit} {k : Nat} (h : k < s.eyes.length) : nth (s.eyes.map eyeV) k = eyeV (eAt s k) := by rw [yYt h]; exact zBs h
def hasK (s : Sit) : Nat → Nat
 | 0 => 0
 | k + 1 => zHh (hasK s k) (eAt s k).phase
def belK (s : Sit) (l : List zCv) : Nat → Nat
 | 0 => 0
 | k + 1 => if (kAt l k).bad = true then belK s l k else zHh (belK s l k) (eAt s k).phase
theorem yTx (s : Sit) : ∀ k, hasK s k < 4294967296
 | 0 => by show (0 : Nat) < _; decide
 | k + 1 => zJd (yTx s k) _
theorem yZt (s : Sit) (l : List zCv) : ∀ k, belK s l k < 4294967296
 | 0 => by show (0 : Nat) < _; decide
 | k + 1 => by
  have ih := yZt s l k;show (if _ then _ else _ : Nat) < _
  split
  ·exact ih
  ·exact zJd ih _
noncomputable def zXo (s : Sit) (l : List zCv) : Bool × Int := if zFq s l ≠ 0 then (false, zFq s l) else (hasK s l.length == belK s l l.length, 0)
theorem zRz {s : Sit} {l : List zCv} (h : zFq s l = 0) : zAk s ∧ l.length = s.eyes.length ∧ ∀ k, k < l.length → yDl (kAt l k) := by
 unfold zFq at h
 by_cases hs : zAk s
 ·have e : zAm s = 0 := by unfold zAm; rw [if_pos hs]
  rw [if_neg (by omega)] at h
  by_cases hl : l.length = s.eyes.length
  ·rw [if_neg (by omega)] at h
   refine ⟨hs, hl, fun k hk => ?_⟩
   by_cases ha : anyR l.length (fun i => !mayK (kAt l i)) = true
   ·rw [if_pos ha] at h; exact absurd h (by decide)
   ·have := zDn.1 (by simpa using ha) k hk
    exact yIt.1 (by simpa using this)
  ·rw [if_pos hl] at h; exact absurd h (by decide)
 ·have e : zAm s = 50 := by unfold zAm; rw [if_neg hs]
  rw [e, if_pos (by decide)] at h
  exact absurd h (by decide)
set_option maxHeartbeats 2000000 in
theorem zZp (s : Sit) (l : List zCv) : FnD Tryz.prog 97 [sitV s, .sl 5 (l.map zCo)] (.tup [.bool (zXo s l).1, .int .i64 (zXo s l).2]) tabG := by
 have hsv := zAs s
 have qc := yCg s l
 have hok := zRz (s := s) (l := l)
 have hW : zXo s l = if zFq s l ≠ 0 then (false, zFq s l) else (hasK s l.length == belK s l l.length, 0) := rfl
 generalize zXo s l = r at *
 generalize zFq s l = c at *
 rw [hsv] at qc ⊢
 refine zAd mixed Tryz.func97 rfl rfl (by simp [Tryz.ntmps97]) fun hwf E => ?_
 simp (disch := omega) [go_sem] at hwf
 simp (disch := omega) [Tryz.ntmps97, go_sem]
 refine zAa qc [] (by simp [go_sem]) (.inl rfl) (by simp [go_sem]) (fun _ => ?_) (by simp [tabG, go_sem])
 simp (disch := omega) [go_sem]
 refine zAc (fun h1 => ?_) (fun h1 => ?_) <;> simp at h1
 ·rw [if_pos h1] at hW;simp (disch := omega) [go_sem, hW]
 ·rw [if_neg (by omega)] at hW
  obtain ⟨_, hl, _⟩ := hok h1;simp (disch := omega) [go_sem];refine zAe mixed (fun k : Nat => siS s [(20, .int .i64 k), (19, .int .i64 l.length), (18, .sl 5 (l.map zCo)), (8, .int .u32 (belK s l k)), (7, .int .u32 (hasK s k)), (2, .ptr 0 1 0 0)] [] 1024 43 tabG) (fun k => k ≤ l.length) (fun k => l.length - k) 0 ?_ ?_ ?_
  ·omega
  ·refine Le.mk [(0, some 0)] [0] ⟨rfl, rfl, rfl⟩ ?_ ?_ ?_ <;> simp [go_sem, siS, sitV, hasK, belK]
  ·intro k hk;simp (disch := omega) [go_sem, siS, sitV];refine zAc (fun h => ?_) (fun h => ?_) <;> simp at h
   ·have hke : k < s.eyes.length := by omega
    have hn := nthK h;have hm := nthE hke;have q2 := zZo (hasK s k) (eAt s k).phase (yTx s k);have q3 := zZe (kAt l k);have q4 := zZo (belK s l k) (eAt s k).phase (yZt s l k);have e1 : hasK s (k + 1) = zHh (hasK s k) (eAt s k).phase := rfl;have e2 : belK s l (k + 1) = if (kAt l k).bad = true then belK s l k else zHh (belK s l k) (eAt s k).phase := rfl
    simp only [zCo] at q3;simp (disch := omega) [go_sem, hn, h, zCo, hm, hke, eyeV];refine zAa q2 [] (by simp [go_sem]) (.inl rfl) (by simp [go_sem]) (fun _ => ?_)
    simp (disch := omega) [go_sem];refine zAj q3 [] (by simp [go_sem]) (fun h5 => ?_) (fun h5 => ?_) <;> try simp [] at h5
    ·rw [h5, if_neg (by decide)] at e2
     simp (disch := omega) [go_sem];refine zAa q4 [] (by simp [go_sem]) (.inl rfl) (by simp [go_sem]) (fun _ => ?_)
     simp (disch := omega) [go_sem];refine zAb (k + 1) (by omega) (by omega) (Le.mk [(0, some 0)] [0] ⟨rfl, rfl, rfl⟩ ?_ ?_ ?_) <;> simp [go_sem, e1, e2]
    ·rw [h5, if_pos rfl] at e2;simp (disch := omega) [go_sem];refine zAb (k + 1) (by omega) (by omega) (Le.mk [(0, some 0)] [0] ⟨rfl, rfl, rfl⟩ ?_ ?_ ?_) <;> simp [go_sem, e1, e2]
   ·have hkk : k = l.length := by omega
    subst hkk;simp (disch := omega) [go_sem, hW];rw [Bool.eq_iff_iff, beq_iff_eq, beq_iff_eq]; omega
def pAt (s : Sit) (i : Nat) : Pha := s.phases[i]?.getD ⟨0, 0, 0, 0, false⟩
theorem yIn {s : Sit} {i : Nat} (h : i < s.phases.length) : pAt s i = s.phases[i] := by simp [pAt, h]
theorem nthP {s : Sit} {k : Nat} (h : k < s.phases.length) : nth (s.phases.map phaV) k = phaV (pAt s k) := by rw [yIn h]; exact zBs h
def alwK (s : Sit) : Nat → Nat
 | 0 => 0
 | k + 1 => if (pAt s k).always = true then zHh (alwK s k) k else alwK s k
def zNt (s : Sit) (l : List zCv) : Nat → Nat
 | 0 => alwK s s.phases.length
 | k + 1 => if ((kAt l k).up || (kAt l k).bad) = true then zHh (zNt s l k) (eAt s k).phase else zNt s l k
theorem yHn (s : Sit) : ∀ k, alwK s k < 4294967296
 | 0 => by show (0 : Nat) < _; decide
 | k + 1 => by
  have ih := yHn s k;show (if _ then _ else _ : Nat) < _
  split
  ·exact zJd ih _
  ·exact ih
theorem zXw (s : Sit) (l : List zCv) : ∀ k, zNt s l k < 4294967296
 | 0 => yHn s _
 | k + 1 => by
  have ih := zXw s l k;show (if _ then _ else _ : Nat) < _
  split
  ·exact zJd ih _
  ·exact ih
noncomputable def yMl (s : Sit) (l : List zCv) : Nat × Int := if zFq s l ≠ 0 then (0, zFq s l) else (zNt s l l.length, 0)
theorem zPl {k : Nat} (hk : k < 32) : IntKind.u32.wrap (2 ^ k) = ((bitN k : Nat) : Int) := by
 have hb := zGc (k : Int)
 have e : bitN (k : Int) = 2 ^ k := by unfold bitN; rw [if_neg (by omega)]; simp
 rw [e] at hb ⊢
 have e2 : (2 : Int) ^ k = ((2 ^ k : Nat) : Int) := by simp
 rw [e2]
 generalize 2 ^ k = q at hb ⊢
 exact zLg (by omega) (by omega)
theorem xXp {s : Sit} (hs : zAk s) {k : Nat} (h : k < s.eyes.length) : 0 ≤ (eAt s k).phase ∧ (eAt s k).phase < s.phases.length := by
 have h3 := hs 3 (by decide)
 have h4 := List.all_eq_true.1 h3 s.eyes[k] (List.getElem_mem h)
 rw [yYt h]
 simp only [yOc, inN, Bool.and_eq_true, decide_eq_true_eq] at h4
 omega
set_option maxHeartbeats 2000000 in
theorem yRn (s : Sit) (l : List zCv) : FnD Tryz.prog 153 [sitV s, .sl 5 (l.map zCo)] (.tup [.int .u32 ((yMl s l).1 : Nat), .int .i64 (yMl s l).2]) tabG := by
 have hsv := zAs s
 have qc := zZp s l
 have hok := zRz (s := s) (l := l)
 have hR : yMl s l = if zFq s l ≠ 0 then (0, zFq s l) else (zNt s l l.length, 0) := rfl
 have hW : (zXo s l).2 = zFq s l := by
  unfold zXo;split
  ·rfl
  ·show 0 = _; omega
 rw [hW] at qc
 generalize yMl s l = r at *
 generalize zFq s l = c at *
 generalize (zXo s l).1 = wb at *
 rw [hsv] at qc ⊢
 refine zAd mixed Tryz.func153 rfl rfl (by simp [Tryz.ntmps153]) fun hwf E => ?_
 simp (disch := omega) [go_sem] at hwf
 simp (disch := omega) [Tryz.ntmps153, go_sem]
 refine zAa qc [] (by simp [go_sem]) (.inl rfl) (by simp [go_sem]) (fun _ => ?_) (by simp [tabG, go_sem])
 simp (disch := omega) [go_sem]
 refine zAc (fun h1 => ?_) (fun h1 => ?_) <;> simp at h1
 ·rw [if_pos h1] at hR;simp (disch := omega) [go_sem, hR]
 ·rw [if_neg (by omega)] at hR
  obtain ⟨hs, hl, _⟩ := hok h1;have h8 : s.phases.length ≤ 8 := hs.shaped.2.2.2.1.2;simp (disch := omega) [go_sem];refine zAe mixed (fun k : Nat => siS s [(24, .int .i64 k), (23, .int .i64 s.phases.length), (22, .sl 5 (s.phases.map phaV)), (4, .int .u32 (alwK s k)), (2, .ptr 0 1 0 0), (1, .sl 5 (l.map zCo))] [] 1024 56 tabG) (fun k => k ≤ s.phases.length) (fun k => s.phases.length - k) 0 ?_ ?_ ?_
  ·omega
  ·refine Le.mk [(0, some 0)] [0] ⟨rfl, rfl, rfl⟩ ?_ ?_ ?_ <;> simp [go_sem, siS, sitV, alwK]
  ·intro k hk;have e1 : alwK s (k + 1) = if (pAt s k).always = true then zHh (alwK s k) k else alwK s k := rfl
   have hal := yHn s k;simp (disch := omega) [go_sem, siS, sitV];refine zAc (fun h => ?_) (fun h => ?_) <;> simp at h
   ·have hn := nthP h;simp (disch := omega) [go_sem, hn, h, phaV];refine zAc (fun h5 => ?_) (fun h5 => ?_)
    ·rw [h5, if_pos rfl] at e1;have hsh := zPl (show k < 32 by omega)
     have hb := zGc (k : Int);simp (disch := omega) [go_sem, hsh];refine zAb (k + 1) (by omega) (by omega) (Le.mk [(0, some 0)] [0] ⟨rfl, rfl, rfl⟩ ?_ ?_ ?_) <;> simp [go_sem, e1, zHh]
    ·rw [h5, if_neg (by decide)] at e1
     simp (disch := omega) [go_sem];refine zAb (k + 1) (by omega) (by omega) (Le.mk [(0, some 0)] [0] ⟨rfl, rfl, rfl⟩ ?_ ?_ ?_) <;> simp [go_sem, e1]
   ·have hkk : k = s.phases.length := by omega
    subst hkk;have hr0 : alwK s s.phases.length = zNt s l 0 := rfl;rw [hr0] at *;simp (disch := omega) [go_sem];refine zAe mixed (fun k : Nat => siS s [(38, .int .i64 k), (37, .int .i64 l.length), (36, .sl 5 (l.map zCo)), (4, .int .u32 (zNt s l k)), (2, .ptr 0 1 0 0)] [] 2048 56 tabG) (fun k => k ≤ l.length) (fun k => l.length - k) 0 ?_ ?_ ?_
    ·omega
    ·refine Le.mk [(0, some 0)] [0] ⟨rfl, rfl, rfl⟩ ?_ ?_ ?_ <;> simp [go_sem, siS, sitV]
    ·intro k hk;have e1 : zNt s l (k + 1) = if ((kAt l k).up || (kAt l k).bad) = true then zHh (zNt s l k) (eAt s k).phase else zNt s l k := rfl
     have hal := zXw s l k;simp (disch := omega) [go_sem, siS, sitV];refine zAc (fun h => ?_) (fun h => ?_) <;> simp at h
     ·have hke : k < s.eyes.length := by omega
      have hn := nthK h;have hm := nthE hke;have q2 := yLa (kAt l k);simp only [zCo] at q2;simp (disch := omega) [go_sem, hn, h, zCo];generalize ((kAt l k).up || (kAt l k).bad) = wa at *
      refine zAj q2 [] (by simp [go_sem]) (fun h5 => ?_) (fun h5 => ?_) <;> try simp [inN] at h5
      ·rw [h5, if_pos rfl] at e1;obtain ⟨p0, p1⟩ := xXp hs hke;obtain ⟨ph, hph⟩ := Int.eq_ofNat_of_zero_le p0;have hsh := zPl (show ph < 32 by omega)
       have hb := zGc (ph : Int);rw [hph] at e1;simp (disch := omega) [go_sem, hm, hke, eyeV, hph, hsh];refine zAb (k + 1) (by omega) (by omega) (Le.mk [(0, some 0)] [0] ⟨rfl, rfl, rfl⟩ ?_ ?_ ?_) <;> simp [go_sem, e1, zHh]
      ·rw [h5, if_neg (by decide)] at e1
       simp (disch := omega) [go_sem];refine zAb (k + 1) (by omega) (by omega) (Le.mk [(0, some 0)] [0] ⟨rfl, rfl, rfl⟩ ?_ ?_ ?_) <;> simp [go_sem, e1]
     ·have hkk : k = l.length := by omega
      subst hkk;simp (disch := omega) [go_sem, hR]
end
section
def yCn (s : Sit) (c : Nat) (p : Int) : Int := if c / 2 ^ s.phases.length ≠ 0 then 8 else if p < -1 ∨ (s.phases.length : Int) ≤ p then 2 else 0
theorem yZj (s : Sit) (c : Nat) (p : Int) (hn : s.phases.length ≤ 8) : FnD Tryz.prog 154 [sitV s, .int .u32 c, .int .i64 p] (.int .i64 (yCn s c p)) := by
 have hE : yCn s c p = if c / 2 ^ s.phases.length ≠ 0 then 8 else if p < -1 ∨ (s.phases.length : Int) ≤ p then 2 else 0 := rfl
 generalize yCn s c p = r at *
 generalize hq : c / 2 ^ s.phases.length = q at *
 unfold sitV
 refine zAd mixed Tryz.func154 rfl rfl (by simp [Tryz.ntmps154]) fun hwf E => ?_
 simp (disch := omega) [go_sem] at hwf
 simp (disch := omega) [Tryz.ntmps154, go_sem]
 try simp (disch := omega) [go_sem, zGe, hq]
 refine zAc (fun h1 => ?_) (fun h1 => ?_) <;> simp at h1
 ·rw [if_pos (by omega)] at hE
  simp (disch := omega) [go_sem, hE]
 ·rw [if_neg (by omega)] at hE
  by_cases h2 : p < -1 ∨ (s.phases.length : Int) ≤ p
  ·rw [if_pos h2] at hE;repeat' first
    | (refine zAc (fun hb => ?_) (fun hb => ?_) <;> simp at hb)
    | (refine zBu (fun hb => ?_) (fun hb => ?_) <;> (try simp only [hb]) <;> (try simp at hb) <;> try simp (disch := omega) [go_sem, hb, hE])
    | refine ⟨.inl (by kernel_rfl), ?_⟩
    | simp (disch := omega) [go_sem, hE]
   all_goals first | omega | (simp_all []; done) | (simp_all []; omega) | ((repeat' split) <;> first | omega | (simp_all []; done) | (simp_all []; omega)) | skip
  ·rw [if_neg h2] at hE;repeat' first
    | (refine zAc (fun hb => ?_) (fun hb => ?_) <;> simp at hb)
    | (refine zBu (fun hb => ?_) (fun hb => ?_) <;> (try simp only [hb]) <;> (try simp at hb) <;> try simp (disch := omega) [go_sem, hb, hE])
    | refine ⟨.inl (by kernel_rfl), ?_⟩
    | simp (disch := omega) [go_sem, hE]
   all_goals first | omega | (simp_all []; done) | (simp_all []; omega) | ((repeat' split) <;> first | omega | (simp_all []; done) | (simp_all []; omega)) | skip
noncomputable def zMg (s : Sit) (c : Nat) (l : List zCv) (g : Int) : Nat × Int :=
 if zFq s l ≠ 0 then (0, zFq s l) else if yCn s c g ≠ 0 then (0, yCn s c g) else (zEg (c ||| zNt s l l.length) g, 0)
set_option maxHeartbeats 1000000 in
theorem yOh (s : Sit) (c : Nat) (l : List zCv) (g : Int) (hc : c < 4294967296) : FnD Tryz.prog 94 [sitV s, .int .u32 c, .sl 5 (l.map zCo), .int .i64 g] (.tup [.int .u32 ((zMg s c l g).1 : Nat), .int .i64 (zMg s c l g).2]) tabG := by
 have qr := yRn s l
 have hok := zRz (s := s) (l := l)
 have hR : yMl s l = if zFq s l ≠ 0 then (0, zFq s l) else (zNt s l l.length, 0) := rfl
 have hN : zMg s c l g = if zFq s l ≠ 0 then (0, zFq s l) else if yCn s c g ≠ 0 then (0, yCn s c g) else (zEg (c ||| zNt s l l.length) g, 0) := rfl
 have hrk := zXw s l l.length
 have qa := fun h => yZj s c g h
 generalize zMg s c l g = r at *
 generalize yCn s c g = e2 at *
 generalize zNt s l l.length = k at *
 have hor := xDo hc hrk
 have qw := zKb (c ||| k) g hor
 generalize zFq s l = e at *
 generalize yMl s l = rv at *
 unfold sitV at *
 by_cases he : e = 0
 ·subst he;obtain ⟨hs, _, _⟩ := hok rfl;rw [if_neg (by simp)] at hR hN
  subst hR;have q2 := qa hs.shaped.2.2.2.1.2;refine zAd mixed Tryz.func94 rfl rfl (by simp [Tryz.ntmps94]) fun hwf E => ?_
  clear hwf;simp (disch := omega) [Tryz.ntmps94, go_sem];refine zAa qr [] (by simp [go_sem]) (.inl rfl) (by simp [go_sem]) (fun _ => ?_) (by simp [tabG, go_sem])
  simp (disch := omega) [go_sem];refine zAa q2 [] (by simp [go_sem]) (.inl rfl) (by simp [go_sem]) (fun _ => ?_)
  simp (disch := omega) [go_sem];refine zAc (fun h2 => ?_) (fun h2 => ?_) <;> simp at h2
  ·rw [if_pos h2] at hN;simp (disch := omega) [go_sem, hN]
  ·rw [if_neg (by omega)] at hN
   simp (disch := omega) [go_sem];refine zAa qw [] (by simp [go_sem]) (.inl rfl) (by simp [go_sem]) (fun _ => ?_)
   simp (disch := omega) [go_sem];simp (disch := omega) [go_sem, hN]
 ·rw [if_pos he] at hR hN;subst hR;refine zAd mixed Tryz.func94 rfl rfl (by simp [Tryz.ntmps94]) fun hwf E => ?_
  clear hwf;simp (disch := omega) [Tryz.ntmps94, go_sem];refine zAa qr [] (by simp [go_sem]) (.inl rfl) (by simp [go_sem]) (fun _ => ?_) (by simp [tabG, go_sem])
  simp (disch := omega) [go_sem];refine zAc (fun h2 => ?_) (fun h2 => ?_) <;> simp at h2
  ·simp (disch := omega) [go_sem, hN]
  ·exact absurd h2 he
end
section
def xAp (x y : Int) : Int := IntKind.u64.wrap ((BitVec.ofInt 64 x &&& BitVec.ofInt 64 y).toNat)
theorem zXc (x y : Int) : zDl .and .u64 x y = some (.int .u64 (xAp x y)) := rfl
def xYb (x y : Int) : Int := IntKind.i64.wrap ((BitVec.ofInt 64 x &&& BitVec.ofInt 64 y).toNat)
theorem yHe (x y : Int) : zDl .and .i64 x y = some (.int .i64 (xYb x y)) := rfl
theorem yAv (x : Int) : ∃ r : Int, FnD Tryz.prog 199 [.int .u64 x] (.int .i64 r) := by
 refine ⟨?_, ?_⟩
 rotate_left
 ·refine zAd mixed Tryz.func199 rfl rfl (by simp [Tryz.ntmps199]) fun hwf E => ?_
  clear hwf;simp (disch := omega) [Tryz.ntmps199, go_sem];simp (disch := omega) [go_sem, zXc, yHe];rfl
noncomputable def xDg (x : Int) : Int := Classical.choose (yAv x)
theorem yFo (x : Int) : FnD Tryz.prog 199 [.int .u64 x] (.int .i64 (xDg x)) := Classical.choose_spec (yAv x)
def stT (x : zCv) (up : Bool) : Int := if up = x.up then IntKind.u64.wrap (x.turns * 2) else or1 (IntKind.u64.wrap (x.turns * 2))
def stS (x : zCv) (up : Bool) : Int := addO (if up = x.up then x.same else 0) 1048576
noncomputable def zIj (s : Sit) (i : Nat) (x : zCv) (up : Bool) : zCv :=
 if (if up = true then (eAt s i).on else (eAt s i).off) ≤ stS x up ∨ (eAt s i).turns < xDg (stT x up) then ⟨up, stS x up, stT x up, true, 0⟩
 else if x.bad = true then (if s.heal ≤ x.well + 1 then ⟨up, stS x up, stT x up, false, 0⟩ else ⟨up, stS x up, stT x up, true, x.well + 1⟩)
 else ⟨up, stS x up, stT x up, false, x.well⟩
theorem yIy (u : Bool) (a t : Int) (b : Bool) (w : Int) : zCo ⟨u, a, t, b, w⟩ = .agg [.bool u, .int .i64 a, .int .u64 t, .bool b, .int .i64 w] := rfl
set_option maxHeartbeats 8000000 in
theorem yQj (s : Sit) (i : Nat) (x : zCv) (up : Bool) (hi : i < s.eyes.length) (hx : yDl x) : FnD Tryz.prog 152 [sitV s, .int .i64 i, zCo x, .bool up] (zCo (zIj s i x up)) := by
 obtain ⟨xu, xs, xt, xb, xw⟩ := x
 obtain ⟨k1, k2, k3, k4, _⟩ := hx
 simp only at k1 k2 k3 k4
 have hw := zNm (xt * 2)
 have hm := nthE hi
 have hg : ∀ h', s.eyes[i]'h' = eAt s i := fun h' => (yYt h').symm
 have hT : stT ⟨xu, xs, xt, xb, xw⟩ up = if up = xu then IntKind.u64.wrap (xt * 2) else or1 (IntKind.u64.wrap (xt * 2)) := rfl
 have hS : stS ⟨xu, xs, xt, xb, xw⟩ up = addO (if up = xu then xs else 0) 1048576 := rfl
 have qp := yFo (stT ⟨xu, xs, xt, xb, xw⟩ up)
 have hR : zIj s i ⟨xu, xs, xt, xb, xw⟩ up = if (if up = true then (eAt s i).on else (eAt s i).off) ≤ stS ⟨xu, xs, xt, xb, xw⟩ up ∨ (eAt s i).turns < xDg (stT ⟨xu, xs, xt, xb, xw⟩ up) then ⟨up, stS ⟨xu, xs, xt, xb, xw⟩ up, stT ⟨xu, xs, xt, xb, xw⟩ up, true, 0⟩
  else if xb = true then (if s.heal ≤ xw + 1 then ⟨up, stS ⟨xu, xs, xt, xb, xw⟩ up, stT ⟨xu, xs, xt, xb, xw⟩ up, false, 0⟩ else ⟨up, stS ⟨xu, xs, xt, xb, xw⟩ up, stT ⟨xu, xs, xt, xb, xw⟩ up, true, xw + 1⟩)
  else ⟨up, stS ⟨xu, xs, xt, xb, xw⟩ up, stT ⟨xu, xs, xt, xb, xw⟩ up, false, xw⟩ := rfl
 generalize zIj s i ⟨xu, xs, xt, xb, xw⟩ up = r at *
 have hsb : 0 ≤ stS ⟨xu, xs, xt, xb, xw⟩ up ∧ stS ⟨xu, xs, xt, xb, xw⟩ up ≤ 1048576 := by
  rw [hS]; unfold addO; (repeat' split) <;> omega
 generalize xDg (stT ⟨xu, xs, xt, xb, xw⟩ up) = pp at *
 generalize eAt s i = e at *
 obtain ⟨e1, e2, e3, e4⟩ := e
 simp only at hR
 rw [eyeV] at hm
 rw [yIy]
 simp only at hm
 cases up <;> cases xu
 all_goals
  simp only [if_true, if_false, Bool.false_eq_true, Bool.true_eq_false] at hT hS hR;rw [hT] at qp hR;generalize stS ⟨_, xs, xt, xb, xw⟩ _ = q at *;clear hT
 all_goals
  unfold addO at hS;have hS2 := hS.symm;clear hS;unfold sitV
 all_goals try (have hq1 : q = 1 := by rw [← hS2]; decide
                clear hS2;subst hq1;have hS2 : True := trivial)
 all_goals
  cases xb
  all_goals
   simp only [if_true, if_false, Bool.false_eq_true] at hR;repeat' split at hR
   all_goals
    subst hR;rw [yIy];refine zAd mixed Tryz.func152 rfl rfl (by simp [Tryz.ntmps152]) fun hwf E => ?_
    clear hwf;simp (disch := omega) [Tryz.ntmps152, go_sem];repeat' first
     | (refine zAc (fun hb => ?_) (fun hb => ?_) <;> simp at hb)
     | (refine zBu (fun hb => ?_) (fun hb => ?_) <;> (try simp only [hb]) <;> (try simp at hb) <;> try simp (disch := omega) [go_sem, hb, hm, hg, hi, eyeV, ySh, hS2])
     | (refine zAa qp [] ?_ ?_ ?_ (fun _ => ?_) (by simp [go_sem]); (focus (simp [go_sem]; done)); (focus (exact .inl rfl)); (focus (simp [go_sem]; done)))
     | refine ⟨.inl (by kernel_rfl), ?_⟩
     | simp (disch := omega) [go_sem, hm, hg, hi, eyeV, ySh, hS2]
    all_goals first | omega | skip
end
section
def lk0 : zCv := ⟨false, 0, 0, false, 0⟩
noncomputable def eyK (s : Sit) (l : List zCv) (u : Nat) (k : Nat) : List zCv := (List.range l.length).map fun i => if i < k then zIj s i (kAt l i) (hasN u i) else lk0
theorem yYn (s : Sit) (l : List zCv) (u k : Nat) : (eyK s l u k).length = l.length := by simp [eyK]
theorem xKf (s : Sit) (l : List zCv) (u : Nat) : (eyK s l u 0).map zCo = List.replicate l.length (V.agg [.bool false, .int .i64 0, .int .u64 0, .bool false, .int .i64 0]) := by
 simp [eyK, List.map_const', lk0, zCo]
theorem xXq {s : Sit} {l : List zCv} {u k : Nat} (h : k < l.length) : kAt (eyK s l u k) k = lk0 := by simp [eyK, kAt, h]
theorem xTb {s : Sit} {l : List zCv} {u k : Nat} (h : k < l.length) : ((eyK s l u k).map zCo).set k (zCo (zIj s k (kAt l k) (hasN u k))) = (eyK s l u (k + 1)).map zCo := by
 apply List.ext_getElem (by simp [eyK])
 intro i h1 h2
 simp only [eyK, List.getElem_set, List.getElem_map, List.getElem_range]
 by_cases e : k = i
 ·subst e; simp
 ·rw [if_neg e];by_cases e2 : i < k
  ·rw [if_pos e2, if_pos (by omega)]
  ·rw [if_neg e2, if_neg (by omega)]
noncomputable def eyL (s : Sit) (l : List zCv) (u : Nat) : List zCv := if zFq s l ≠ 0 then [] else eyK s l u l.length
set_option maxHeartbeats 4000000 in
theorem yYs (s : Sit) (l : List zCv) (u : Nat) (hu : u < 4294967296) : FnD Tryz.prog 93 [sitV s, .sl 5 (l.map zCo), .int .u32 u] (.tup [.sl 5 ((eyL s l u).map zCo), .int .i64 (zFq s l)]) tabG := by
 have hsv := zAs s
 have qc := yCg s l
 have hok := zRz (s := s) (l := l)
 have hL : eyL s l u = if zFq s l ≠ 0 then [] else eyK s l u l.length := rfl
 have qst := fun i hi hx => yQj s i (kAt l i) (hasN u i) hi hx
 generalize eyL s l u = r at *
 generalize zFq s l = c at *
 rw [hsv] at qc qst ⊢
 refine zAd mixed Tryz.func93 rfl rfl (by simp [Tryz.ntmps93]) fun hwf E => ?_
 clear hwf
 simp (disch := omega) [Tryz.ntmps93, go_sem]
 refine zAa qc [] (by simp [go_sem]) (.inl rfl) (by simp [go_sem]) (fun _ => ?_) (by simp [tabG, go_sem])
 simp (disch := omega) [go_sem]
 refine zAc (fun h1 => ?_) (fun h1 => ?_) <;> simp at h1
 ·rw [if_pos h1] at hL;subst hL;simp (disch := omega) [go_sem]
 ·rw [if_neg (by omega)] at hL
  obtain ⟨hs, hl, hlk⟩ := hok h1;have h24 : s.eyes.length ≤ 24 := hs.shaped.2.2.2.2.1;simp (disch := omega) [go_sem];refine ⟨⟨by omega, by omega⟩, ?_⟩
  rw [← xKf s l u];refine zAe mixed (fun k : Nat => siS s [(23, .int .i64 k), (22, .int .i64 l.length), (21, .sl 5 (l.map zCo)), (9, .obj 176 l.length), (3, .ptr 0 1 0 0), (2, .int .u32 u)] [(176, ⟨.arr, 240, 5, (eyK s l u k).map zCo⟩)] 1024 40 tabG) (fun k => k ≤ l.length) (fun k => l.length - k) 0 ?_ ?_ ?_
  ·omega
  ·refine Le.mk [(0, some 0), (176, some 176)] [0, 176] ⟨rfl, rfl, rfl⟩ ?_ ?_ ?_ <;> simp [go_sem, siS, sitV]
  ·intro k hk;have e1 := yYn s l u k;simp (disch := omega) [go_sem, siS, sitV];refine zAc (fun h => ?_) (fun h => ?_) <;> simp at h
   ·have hke : k < s.eyes.length := by omega
    have hn := nthK h;have en := nthK (l := eyK s l u k) (k := k) (by rw [e1]; exact h)
    rw [xXq h] at en;have e2 := xTb (s := s) (u := u) h;have e3 := yYn s l u (k + 1);have q1 := zYn u k hu;have q2 := qst k hke (hlk k h);have hg : ∀ h', kAt l k = l[k]'h' := fun h' => xMg h'
    rw [zCo] at hn;have hlv : zCo (kAt l k) = .agg [.bool (kAt l k).up, .int .i64 (kAt l k).same, .int .u64 (kAt l k).turns, .bool (kAt l k).bad, .int .i64 (kAt l k).well] := rfl;rw [hlv] at q2;have hrv : zCo (zIj s k (kAt l k) (hasN u k)) = .agg [.bool (zIj s k (kAt l k) (hasN u k)).up, .int .i64 (zIj s k (kAt l k) (hasN u k)).same, .int .u64 (zIj s k (kAt l k) (hasN u k)).turns, .bool (zIj s k (kAt l k) (hasN u k)).bad, .int .i64 (zIj s k (kAt l k) (hasN u k)).well] := rfl;rw [hrv] at q2 e2;generalize zIj s k (kAt l k) (hasN u k) = w at *;simp (disch := omega) [go_sem, hn, h];refine zAa q1 [] (by simp [go_sem]) (.inl rfl) (by simp [go_sem]) (fun _ => ?_)
    simp (disch := omega) [go_sem];refine zAa q2 [] (by simp [go_sem]) (.inl rfl) (by simp [go_sem]) (fun _ => ?_)
    simp (disch := omega) [go_sem];simp (disch := omega) [go_sem, e1, h, zCo];refine ⟨.inl (by kernel_rfl), ?_⟩
    rw [e2];refine zAb (k + 1) (by omega) (by omega) (Le.mk [(0, some 0), (176, some 176)] [0, 176] ⟨rfl, rfl, rfl⟩ ?_ ?_ ?_) <;> simp [go_sem]
   ·have hkk : k = l.length := by omega
    subst hkk;rw [← hL] at *;simp (disch := omega) [go_sem];exact ⟨⟨e1.symm, zAt (by simp [go_sem])⟩, h1.symm⟩
end
section
def yLb (s : Sit) (p g : Nat) : Bool := (pAt s p).set.testBit g
theorem xBf {s : Sit} (h : wfs (s.phases.map phaV)) (a : Nat) (ha : a < s.phases.length) : (pAt s a).set < 4294967296 := by
 have := zSd (f := phaV) h s.phases[a] (List.getElem_mem ha)
 rw [yIn ha]
 simp [go_sem, phaV] at this
 omega
theorem zSf (s : Sit) (p g : Nat) (hp : p < s.phases.length) (hg : g < 32) : FnD Tryz.prog 76 [sitV s, .int .i64 p, .int .i64 g] (.bool (yLb s p g)) := by
 unfold sitV
 refine zAd mixed Tryz.func76 rfl rfl (by simp [Tryz.ntmps76]) fun hwf E => ?_
 simp (disch := omega) [go_sem] at hwf
 simp (disch := omega) [Tryz.ntmps76, go_sem]
 have hlt := xBf hwf.1.2.2.2.2.1.2 p hp
 obtain ⟨m, hb2, hr⟩ := zLt (b := g) hlt
 have hg2 : ∀ h', s.phases[p]'h' = pAt s p := fun h' => (yIn h').symm
 simp (disch := omega) [go_sem, hp, hg2, phaV, zGe, hb2]
 rw [Bool.eq_iff_iff, beq_iff_eq]
 unfold yLb
 rw [← hr]
 omega
def tfQ (s : Sit) (g : List Seen) (p i : Nat) : Bool := yLb s p i && (sAt g i).aspect != 2
def zYr (s : Sit) (g : List Seen) (p : Nat) : Bool := !anyR g.length (tfQ s g p)
set_option maxHeartbeats 2000000 in
theorem yLo (s : Sit) (g : List Seen) (st : Int) (fl : Bool) (p : Nat) (hp : p < s.phases.length) (hg : g.length ≤ 16) : FnD Tryz.prog 36 [sitV s, safV ⟨g, st, fl⟩, .int .i64 p] (.bool (zYr s g p)) := by
 have hsv := zAs s
 have qw := fun i hi => zSf s p i hp hi
 have hF : zYr s g p = !anyR g.length (tfQ s g p) := rfl
 generalize zYr s g p = r at *
 rw [hsv] at qw ⊢
 unfold safV
 simp only
 refine zAd mixed Tryz.func36 rfl rfl (by simp [Tryz.ntmps36]) fun hwf E => ?_
 clear hwf
 simp (disch := omega) [Tryz.ntmps36, go_sem]
 refine zAe mixed (fun k : Nat => siS s [(12, .int .i64 k), (11, .int .i64 g.length), (10, .sl 3 (g.map zBb)), (3, .ptr 0 1 0 0), (2, .int .i64 p)] [] 1024 27) (fun k => k ≤ g.length ∧ ∀ i, i < k → tfQ s g p i = false) (fun k => g.length - k) 0 ?_ ?_ ?_
 ·exact ⟨by omega, fun i hi => absurd hi (Nat.not_lt_zero i)⟩
 ·refine Le.mk [(0, some 0)] [0] ⟨rfl, rfl, rfl⟩ ?_ ?_ ?_ <;> simp [go_sem, siS, sitV]
 ·rintro k ⟨hk, hno⟩
  simp (disch := omega) [go_sem, siS, sitV];refine zAc (fun h => ?_) (fun h => ?_) <;> simp at h
  ·have hn := nthS h;have hQ : tfQ s g p k = (yLb s p k && (sAt g k).aspect != 2) := rfl;simp (disch := omega) [go_sem, hn, h, zBb];refine zAj (qw k (by omega)) [] (by simp [go_sem]) (fun h5 => ?_) (fun h5 => ?_) <;> try simp [inN] at h5
   ·simp (disch := omega) [go_sem];rw [h5, Bool.true_and] at hQ;refine zAc (fun h6 => ?_) (fun h6 => ?_) <;> simp at h6
    ·rw [zGf h (by rw [hQ]; simpa using h6)] at hF
     simp (disch := omega) [go_sem, hF]
    ·have hno2 := zLv hno (by rw [hQ]; simpa using h6 : tfQ s g p k = false)
     simp (disch := omega) [go_sem];refine zAb (k + 1) (⟨by omega, hno2⟩) (by omega) (Le.mk [(0, some 0)] [0] ⟨rfl, rfl, rfl⟩ ?_ ?_ ?_) <;> simp [go_sem]
   ·rw [h5, Bool.false_and] at hQ;have hno2 := zLv hno hQ;simp (disch := omega) [go_sem];refine zAb (k + 1) (⟨by omega, hno2⟩) (by omega) (Le.mk [(0, some 0)] [0] ⟨rfl, rfl, rfl⟩ ?_ ?_ ?_) <;> simp [go_sem]
  ·have hkk : k = g.length := by omega
   subst hkk;rw [zJp hno] at hF;simp (disch := omega) [go_sem, hF]
def zIp (e c : Int) (n : Nat) (p : Int) : Int := if c ≠ 0 then c else if e ≠ 0 then e else if p < 0 ∨ (n : Int) ≤ p then 2 else 0
theorem zSh (s : Sit) (p : Int) (f : FuncId) (fst caps : List V) (e : Int) (hpf : zAz fst) (hpc : zAz caps) (hf : FnD Tryz.prog f (fst ++ caps) (.int .i64 e)) : FnD Tryz.prog 34 [sitV s, .int .i64 p, .func (.func f) fst caps] (.int .i64 (zIp e (zAm s) s.phases.length p)) tabG := by
 have qc := zCe s
 have hT : zIp e (zAm s) s.phases.length p = if zAm s ≠ 0 then zAm s else if e ≠ 0 then e else if p < 0 ∨ (s.phases.length : Int) ≤ p then 2 else 0 := rfl
 generalize zIp e (zAm s) s.phases.length p = r at *
 generalize zAm s = c at *
 unfold sitV at *
 refine zAd mixed Tryz.func34 rfl rfl (by simp [Tryz.ntmps34]) fun hwf E => ?_
 simp (disch := omega) [go_sem] at hwf
 simp (disch := omega) [Tryz.ntmps34, go_sem]
 refine zAa qc [] (by simp [go_sem]) (.inl rfl) (by simp [go_sem]) (fun _ => ?_) (by simp [tabG, go_sem])
 simp (disch := omega) [go_sem]
 refine zAc (fun h1 => ?_) (fun h1 => ?_) <;> simp at h1
 ·rw [if_pos h1] at hT;simp (disch := omega) [go_sem, hT]
 ·rw [if_neg (by omega)] at hT
  simp (disch := omega) [go_sem];have ha : ∀ (hp : Nat → Option AM.Obj), all2 (zBa hp (fun _ => False) V.pure 8) (fst ++ caps) (fst ++ caps) := fun hp => by
   have := zAt (hp := hp) (B := fun _ => False) (n := 8) (xs := fst ++ caps) (by simp [zCr, hpf, hpc])
   exact this
  refine zAa hf [] (by simp [go_sem, ha]) (.inl rfl) (by simp [go_sem]) (fun _ => ?_)
  simp (disch := omega) [go_sem];refine zAc (fun h2 => ?_) (fun h2 => ?_) <;> simp at h2
  ·rw [if_pos h2] at hT;simp (disch := omega) [go_sem, hT]
  ·rw [if_neg (by omega)] at hT
   by_cases h3 : p < 0 ∨ (s.phases.length : Int) ≤ p
   ·rw [if_pos h3] at hT;repeat' first
     | (refine zAc (fun hb => ?_) (fun hb => ?_) <;> simp at hb)
     | (refine zBu (fun hb => ?_) (fun hb => ?_) <;> (try simp only [hb]) <;> (try simp at hb) <;> try simp (disch := omega) [go_sem, hb, hT])
     | refine ⟨.inl (by kernel_rfl), ?_⟩
     | simp (disch := omega) [go_sem, hT]
    all_goals first | omega | (simp_all []; done) | (simp_all []; omega) | ((repeat' split) <;> first | omega | (simp_all []; done) | (simp_all []; omega)) | skip
   ·rw [if_neg h3] at hT;repeat' first
     | (refine zAc (fun hb => ?_) (fun hb => ?_) <;> simp at hb)
     | (refine zBu (fun hb => ?_) (fun hb => ?_) <;> (try simp only [hb]) <;> (try simp at hb) <;> try simp (disch := omega) [go_sem, hb, hT])
     | refine ⟨.inl (by kernel_rfl), ?_⟩
     | simp (disch := omega) [go_sem, hT]
    all_goals first | omega | (simp_all []; done) | (simp_all []; omega) | ((repeat' split) <;> first | omega | (simp_all []; done) | (simp_all []; omega)) | skip
def tkA (s : Sit) (p i : Nat) : Int := if yLb s p i = true then 2 else 1
def tkK (s : Sit) (p k : Nat) : List Int := (List.range s.groups.length).map fun i => if i < k then tkA s p i else 0
theorem yDy (s : Sit) (p k : Nat) : (tkK s p k).length = s.groups.length := by simp [tkK]
theorem xBz (s : Sit) (p : Nat) : lts (tkK s p 0) = List.replicate s.groups.length (.int .u8 0) := by simp [lts, tkK, List.map_const']
theorem xNy {s : Sit} {p k : Nat} (h : k < s.groups.length) : (lts (tkK s p k)).set k (.int .u8 (tkA s p k)) = lts (tkK s p (k + 1)) := by
 apply List.ext_getElem (by simp [lts, tkK])
 intro i h1 h2
 simp only [lts, tkK, List.getElem_set, List.getElem_map, List.getElem_range]
 by_cases e : k = i
 ·subst e; simp
 ·rw [if_neg e];by_cases e2 : i < k
  ·rw [if_pos e2, if_pos (by omega)]
  ·rw [if_neg e2, if_neg (by omega)]
def xAc (s : Sit) (p : Nat) : List Int := tkK s p s.groups.length
set_option maxHeartbeats 2000000 in
theorem yLp (s : Sit) (p : Nat) (hp : p < s.phases.length) (h16 : s.groups.length ≤ 16) : FnD Tryz.prog 166 [sitV s, .int .i64 p] (.sl 1 (lts (xAc s p))) := by
 have hsv := zAs s
 have qw := fun i hi => zSf s p i hp hi
 have hA : xAc s p = tkK s p s.groups.length := rfl
 generalize xAc s p = r at *
 rw [hsv] at qw ⊢
 refine zAd mixed Tryz.func166 rfl rfl (by simp [Tryz.ntmps166]) fun hwf E => ?_
 clear hwf
 simp (disch := omega) [Tryz.ntmps166, go_sem]
 refine ⟨by omega, ?_⟩
 rw [← xBz s p]
 refine zAe mixed (fun k : Nat => siS s [(13, .int .i64 k), (12, .int .i64 s.groups.length), (5, .obj 80 s.groups.length), (2, .ptr 0 1 0 0), (1, .int .i64 p)] [(80, ⟨.arr, 5, 1, lts (tkK s p k)⟩)] 1024 28) (fun k => k ≤ s.groups.length) (fun k => s.groups.length - k) 0 ?_ ?_ ?_
 ·omega
 ·refine Le.mk [(0, some 0), (80, some 80)] [0, 80] ⟨rfl, rfl, rfl⟩ ?_ ?_ ?_ <;> simp [go_sem, siS, sitV]
 ·intro k hk;have e1 := yDy s p k;simp (disch := omega) [go_sem, siS, sitV];refine zAc (fun h => ?_) (fun h => ?_) <;> simp at h
  ·have e2 := xNy (s := s) (p := p) h;have e3 := yDy s p (k + 1);have en := nthL (l := tkK s p k) (k := k) (by rw [e1]; exact h)
   have hkA : tkA s p k = if yLb s p k = true then 2 else 1 := rfl
   have es : nth ((lts (tkK s p k)).set k (.int .u8 1)) k = .int .u8 1 := by
    rw [xPo, if_pos ⟨rfl, by rw [zKq, e1]; exact h⟩]
   simp (disch := omega) [go_sem, e1, h, en];refine zAj (qw k (by omega)) [] (by simp [go_sem]) (fun h5 => ?_) (fun h5 => ?_) <;> try simp [inN] at h5
   ·rw [h5, if_pos rfl] at hkA;rw [hkA] at e2;simp (disch := omega) [go_sem, e1, h, es];refine zAb (k + 1) (by omega) (by omega) (Le.mk [(0, some 0), (80, some 80)] [0, 80] ⟨rfl, rfl, rfl⟩ ?_ ?_ ?_) <;> simp [go_sem, e2]
   ·rw [h5, if_neg (by decide)] at hkA
    rw [hkA] at e2;simp (disch := omega) [go_sem];refine zAb (k + 1) (by omega) (by omega) (Le.mk [(0, some 0), (80, some 80)] [0, 80] ⟨rfl, rfl, rfl⟩ ?_ ?_ ?_) <;> simp [go_sem, e2]
  ·have hkk : k = s.groups.length := by omega
   rw [hkk] at e1 ⊢;rw [← hA] at *;simp (disch := omega) [go_sem];exact ⟨e1.symm, zAt (by simp [go_sem])⟩
theorem yEd : FnD Tryz.prog 165 [] (.int .i64 0) := by
 refine zAd mixed Tryz.func165 rfl rfl (by simp [Tryz.ntmps165]) fun hwf E => ?_
 clear hwf
 simp (disch := omega) [Tryz.ntmps165, go_sem]
def tE (s : Sit) (c p : Int) : Int := zIp 0 c s.phases.length p
noncomputable def zLf (s : Sit) (p : Int) : List Int := if tE s (zAm s) p = 0 then xAc s p.toNat else []
theorem tE_ok {s : Sit} {p : Int} (h : tE s (zAm s) p = 0) : zAk s ∧ 0 ≤ p ∧ p < s.phases.length := by
 unfold tE zIp at h
 by_cases hs : zAk s
 ·have e : zAm s = 0 := by unfold zAm; rw [if_pos hs]
  rw [e] at h;refine ⟨hs, ?_⟩;by_cases hp : p < 0 ∨ (s.phases.length : Int) ≤ p
  ·rw [if_neg (by simp), if_neg (by simp), if_pos hp] at h; exact absurd h (by decide)
  ·omega
 ·have e : zAm s = 50 := by unfold zAm; rw [if_neg hs]
  rw [e, if_pos (by decide)] at h
  exact absurd h (by decide)
theorem zVk (s : Sit) (p : Int) : FnD Tryz.prog 104 [sitV s, .int .i64 p] (.tup [.sl 1 (lts (zLf s p)), .int .i64 (tE s (zAm s) p)]) tabG := by
 have q1 := zSh s p 165 [] [] 0 (by simp [go_sem]) (by simp [go_sem]) yEd
 have hok := tE_ok (s := s) (p := p)
 have hT : zIp 0 (zAm s) s.phases.length p = tE s (zAm s) p := rfl
 rw [hT] at q1
 have hL : zLf s p = if tE s (zAm s) p = 0 then xAc s p.toNat else [] := rfl
 generalize zLf s p = r at *
 generalize tE s (zAm s) p = e at *
 by_cases he : e = 0
 ·subst he;obtain ⟨hs, h0, h1⟩ := hok rfl;obtain ⟨n, rfl⟩ := Int.eq_ofNat_of_zero_le h0;have q2 := yLp s n (by omega) (zMc hs).g16
  rw [if_pos rfl] at hL;simp only [Int.toNat_natCast] at hL;subst hL;unfold sitV at *;refine zAd mixed Tryz.func104 rfl rfl (by simp [Tryz.ntmps104]) fun hwf E => ?_
  clear hwf;simp (disch := omega) [Tryz.ntmps104, go_sem];refine zAa q1 [] (by simp [go_sem]) (.inl rfl) (by simp [go_sem]) (fun _ => ?_) (by simp [tabG, go_sem])
  simp (disch := omega) [go_sem];refine zAa q2 [] (by simp [go_sem]) (.inl rfl) (by simp [go_sem]) (fun _ => ?_)
  simp (disch := omega) [go_sem]
 ·rw [if_neg he] at hL;subst hL;unfold sitV at *;refine zAd mixed Tryz.func104 rfl rfl (by simp [Tryz.ntmps104]) fun hwf E => ?_
  clear hwf;simp (disch := omega) [Tryz.ntmps104, go_sem];refine zAa q1 [] (by simp [go_sem]) (.inl rfl) (by simp [go_sem]) (fun _ => ?_) (by simp [tabG, go_sem])
  simp (disch := omega) [go_sem];refine zAc (fun h2 => ?_) (fun h2 => ?_) <;> simp at h2
  ·simp (disch := omega) [go_sem, lts]
  ·exact absurd h2 he
def zYs (s : Sit) (c : Int) (w : SafN) (p : Int) : Int := zIp (if w.groups.length ≠ s.groups.length then 8 else 0) c s.phases.length p
theorem yEc (s : Sit) (w : SafN) : FnD Tryz.prog 35 [.tptr 3 [safV w] 0 0, .tptr 12 [sitV s] 0 0] (.int .i64 (if w.groups.length ≠ s.groups.length then 8 else 0)) := by
 obtain ⟨g, st, fl⟩ := w
 unfold safV sitV
 simp only
 by_cases h : g.length = s.groups.length
 ·rw [if_neg (by omega)]
  refine zAd mixed Tryz.func35 rfl rfl (by simp [Tryz.ntmps35]) fun hwf E => ?_
  clear hwf;simp (disch := omega) [Tryz.ntmps35, go_sem];refine zAc (fun h1 => ?_) (fun h1 => ?_) <;> simp at h1
  ·exact absurd h (by omega)
  ·simp (disch := omega) [go_sem]
 ·rw [if_pos h];refine zAd mixed Tryz.func35 rfl rfl (by simp [Tryz.ntmps35]) fun hwf E => ?_
  clear hwf;simp (disch := omega) [Tryz.ntmps35, go_sem];refine zAc (fun h1 => ?_) (fun h1 => ?_) <;> simp at h1
  ·simp (disch := omega) [go_sem]
  ·exact absurd h (by omega)
noncomputable def zUu (s : Sit) (w : SafN) (p : Int) : Bool := zYs s (zAm s) w p == 0 && zYr s w.groups p.toNat
theorem xGb {s : Sit} {w : SafN} {p : Int} (h : zYs s (zAm s) w p = 0) : zAk s ∧ w.groups.length = s.groups.length ∧ 0 ≤ p ∧ p < s.phases.length := by
 unfold zYs zIp at h
 by_cases hs : zAk s
 ·have e : zAm s = 0 := by unfold zAm; rw [if_pos hs]
  rw [e, if_neg (by simp)] at h
  by_cases hg : w.groups.length = s.groups.length
  ·rw [if_neg (by simp [hg])] at h
   by_cases hp : p < 0 ∨ (s.phases.length : Int) ≤ p
   ·rw [if_pos hp] at h; exact absurd h (by decide)
   ·exact ⟨hs, hg, by omega, by omega⟩
  ·rw [if_pos (by simp [hg]), if_pos hg] at h; exact absurd h (by decide)
 ·have e : zAm s = 50 := by unfold zAm; rw [if_neg hs]
  rw [e, if_pos (by decide)] at h
  exact absurd h (by decide)
set_option maxHeartbeats 1000000 in
theorem zPh (s : Sit) (w : SafN) (p : Int) : FnD Tryz.prog 21 [sitV s, safV w, .int .i64 p] (.tup [.bool (zUu s w p), .int .i64 (zYs s (zAm s) w p)]) tabG := by
 have q1 := zSh s p 35 [] [.tptr 3 [safV w] 0 0, .tptr 12 [sitV s] 0 0] _ (by simp [go_sem]) (by simp [go_sem]) (yEc s w)
 have hok := xGb (s := s) (w := w) (p := p)
 have hT : zIp (if w.groups.length ≠ s.groups.length then 8 else 0) (zAm s) s.phases.length p = zYs s (zAm s) w p := rfl
 rw [hT] at q1
 have hB : zUu s w p = (zYs s (zAm s) w p == 0 && zYr s w.groups p.toNat) := rfl
 generalize zUu s w p = r at *
 generalize zYs s (zAm s) w p = e at *
 have q2 := fun n hn h => yLo s w.groups w.start w.flashed n hn h
 obtain ⟨g, st, fl⟩ := w
 simp only at *
 by_cases he : e = 0
 ·subst he;obtain ⟨hs, hg, h0, h1⟩ := hok rfl;obtain ⟨n, rfl⟩ := Int.eq_ofNat_of_zero_le h0;have h16 := (zMc hs).g16;have q3 := q2 n (by omega) (by omega)
  simp only [Int.toNat_natCast, beq_self_eq_true, Bool.true_and] at hB;subst hB;unfold safV sitV at *;simp only at *;refine zAd mixed Tryz.func21 rfl rfl (by simp [Tryz.ntmps21]) fun hwf E => ?_
  clear hwf;simp (disch := omega) [Tryz.ntmps21, go_sem];refine zAa q1 [0, 16] (by simp [go_sem]) (.inr (by simp [go_sem])) (by simp [go_sem]) (fun _ => ?_) (by simp [tabG, go_sem])
  simp (disch := omega) [go_sem];refine zAa q3 [] (by simp [go_sem]) (.inl rfl) (by simp [go_sem]) (fun _ => ?_)
  simp (disch := omega) [go_sem]
 ·have hB2 : r = false := by rw [hB]; simp [he]
  subst hB2;have hef : (e == 0) = false := by simpa using he
  unfold safV sitV at *;simp only at *;refine zAd mixed Tryz.func21 rfl rfl (by simp [Tryz.ntmps21]) fun hwf E => ?_
  clear hwf;simp (disch := omega) [Tryz.ntmps21, go_sem];refine zAa q1 [0, 16] (by simp [go_sem]) (.inr (by simp [go_sem])) (by simp [go_sem]) (fun _ => ?_) (by simp [tabG, go_sem])
  simp (disch := omega) [go_sem];try simp (disch := omega) [go_sem, hef]
end
section
def calQ (s : Sit) (c k : Nat) : Bool := (pAt s k).always || c.testBit k
def calK (s : Sit) (c : Nat) : Nat → Nat
 | 0 => 0
 | k + 1 => if calQ s c k = true then zHh (calK s c k) k else calK s c k
theorem yZm (s : Sit) (c : Nat) : ∀ k, calK s c k < 4294967296
 | 0 => by show (0 : Nat) < _; decide
 | k + 1 => by
  have ih := yZm s c k;show (if _ then _ else _ : Nat) < _
  split
  ·exact zJd ih _
  ·exact ih
def calN (s : Sit) (c : Nat) : Nat := calK s c s.phases.length
set_option maxHeartbeats 2000000 in
theorem yHb (s : Sit) (c : Nat) (hc : c < 4294967296) (h8 : s.phases.length ≤ 8) : FnD Tryz.prog 160 [sitV s, .int .u32 c] (.int .u32 (calN s c)) := by
 have hN : calN s c = calK s c s.phases.length := rfl
 generalize calN s c = r at *
 unfold sitV
 refine zAd mixed Tryz.func160 rfl rfl (by simp [Tryz.ntmps160]) fun hwf E => ?_
 clear hwf
 simp (disch := omega) [Tryz.ntmps160, go_sem]
 refine zAe mixed (fun k : Nat => ⟨[(11, .int .i64 k), (10, .int .i64 s.phases.length), (9, .sl 5 (s.phases.map phaV)), (5, .int .u32 (calK s c k)), (1, .int .u32 c)], [], 1024, [], 31, 0, []⟩) (fun k => k ≤ s.phases.length) (fun k => s.phases.length - k) 0 ?_ ?_ ?_
 ·omega
 ·refine Le.mk [] [] ⟨rfl, rfl, rfl⟩ ?_ ?_ ?_ <;> simp [go_sem, calK]
 ·intro k hk;have hal := yZm s c k;simp (disch := omega) [go_sem];refine zAc (fun h => ?_) (fun h => ?_) <;> simp at h
  ·have hn := nthP h;have e1 : calK s c (k + 1) = if calQ s c k = true then zHh (calK s c k) k else calK s c k := rfl
   have hQ : calQ s c k = ((pAt s k).always || c.testBit k) := rfl
   obtain ⟨m, hb2, hr⟩ := zLt (b := k) hc;have hmb : ((m : Int) == 1) = c.testBit k := by
    rw [Bool.eq_iff_iff, beq_iff_eq, ← hr]; omega
   have hsh := zPl (show k < 32 by omega)
   have hb := zGc (k : Int);cases ha : (pAt s k).always
   ·rw [ha, Bool.false_or] at hQ;simp (disch := omega) [go_sem, hn, h, phaV, ha, zGe, hb2, hmb];refine zAc (fun h5 => ?_) (fun h5 => ?_)
    ·rw [hQ, h5, if_pos rfl] at e1;simp (disch := omega) [go_sem, hsh];refine zAb (k + 1) (by omega) (by omega) (Le.mk [] [] ⟨rfl, rfl, rfl⟩ ?_ ?_ ?_) <;> simp [go_sem, e1, zHh]
    ·rw [hQ, h5, if_neg (by decide)] at e1
     simp (disch := omega) [go_sem];refine zAb (k + 1) (by omega) (by omega) (Le.mk [] [] ⟨rfl, rfl, rfl⟩ ?_ ?_ ?_) <;> simp [go_sem, e1]
   ·rw [ha, Bool.true_or] at hQ;rw [hQ, if_pos rfl] at e1;simp (disch := omega) [go_sem, hn, h, phaV, ha, zGe, hb2, hmb, hsh];refine zAb (k + 1) (by omega) (by omega) (Le.mk [] [] ⟨rfl, rfl, rfl⟩ ?_ ?_ ?_) <;> simp [go_sem, e1, zHh]
  ·have hkk : k = s.phases.length := by omega
   subst hkk;simp (disch := omega) [go_sem, hN]
end
section
theorem yOd (a b : List Int) : FnD Tryz.prog 145 [.sl 1 (ints a), .sl 1 (ints b)] (.bool (decide (a = b))) := by
 refine zAd mixed Tryz.func145 rfl rfl (by simp [Tryz.ntmps145]) fun hwf E => ?_
 simp (disch := omega) [go_sem] at hwf
 simp (disch := omega) [Tryz.ntmps145, go_sem]
 refine zAc (fun h1 => ?_) (fun h1 => ?_) <;> simp at h1
 ·have hne : ¬ a = b := fun e => by subst e; exact h1 rfl
  simp (disch := omega) [go_sem, hne];try exact hne
 ·have hl : a.length = b.length := by omega
  simp (disch := omega) [go_sem];refine zAe mixed (fun k : Nat => ⟨[(13, .int .i64 k), (12, .int .i64 a.length), (1, .sl 1 (ints b)), (0, .sl 1 (ints a))], [], 1024, [], 26, 0, []⟩) (fun k => k ≤ a.length ∧ ∀ i (h1 : i < a.length) (h2 : i < b.length), i < k → a[i] = b[i]) (fun k => a.length - k) 0 ?_ ?_ ?_
  ·exact ⟨by omega, fun i _ _ hi => absurd hi (Nat.not_lt_zero i)⟩
  ·refine Le.mk [] [] ⟨rfl, rfl, rfl⟩ ?_ ?_ ?_ <;> simp [go_sem]
  ·rintro k ⟨hk, hno⟩
   simp (disch := omega) [go_sem];refine zAc (fun h => ?_) (fun h => ?_) <;> simp at h
   ·have hb : k < b.length := by omega
    have hn := zBc h;have hm := zBc hb;simp (disch := omega) [go_sem, hn, hm, h, hb];refine ⟨.inl (by kernel_rfl), ?_⟩
    refine zAc (fun h5 => ?_) (fun h5 => ?_) <;> simp at h5
    ·have hne : ¬ a = b := fun e => by subst e; exact h5 rfl
     simp (disch := omega) [go_sem, hne];try exact hne
    ·have hno2 : ∀ i (h1 : i < a.length) (h2 : i < b.length), i < k + 1 → a[i] = b[i] := fun i h1 h2 hi => by
      by_cases e : i = k
      ·subst e; exact h5
      ·exact hno i h1 h2 (by omega)
     simp (disch := omega) [go_sem];refine zAb (k + 1) (⟨by omega, hno2⟩) (by omega) (Le.mk [] [] ⟨rfl, rfl, rfl⟩ ?_ ?_ ?_) <;> simp [go_sem]
   ·have he : a = b := List.ext_getElem hl fun i h1 h2 => hno i h1 h2 (by omega)
    simp (disch := omega) [go_sem, he]
def yMy (x y : Int) : Int := IntKind.u64.wrap ((BitVec.ofInt 64 x ||| BitVec.ofInt 64 y).toNat)
theorem yCw (x y : Int) : zDl .or .u64 x y = some (.int .u64 (yMy x y)) := rfl
def byAt (l : List UInt8) (k : Nat) : Int := ((l[k]?.getD 0).toNat : Int)
theorem xPp {l : List UInt8} {k : Nat} (h : k < l.length) : nth (bts l) k = .int .u8 (byAt l k) := by rw [zJm h]; simp [byAt, h]
def rgK (l : List UInt8) : Nat → Int
 | 0 => 0
 | k + 1 => yMy (rgK l k) (IntKind.u64.wrap (byAt l k * 2 ^ (8 * k)))
theorem xMb (l : List UInt8) : ∀ k, 0 ≤ rgK l k ∧ rgK l k < 18446744073709551616
 | 0 => by show (0 : Int) ≤ 0 ∧ (0 : Int) < _; decide
 | k + 1 => zNm _
def getV (l : List UInt8) : Int × Int := if l.length < 1 ∨ 8 < l.length then (0, 8) else (rgK l l.length, 0)
theorem zOn (l : List UInt8) : FnD Tryz.prog 214 [.sl 1 (bts l)] (.tup [.int .u64 (getV l).1, .int .i64 (getV l).2]) := by
 have hV : getV l = if l.length < 1 ∨ 8 < l.length then (0, 8) else (rgK l l.length, 0) := rfl
 generalize getV l = r at *
 refine zAd mixed Tryz.func214 rfl rfl (by simp [Tryz.ntmps214]) fun hwf E => ?_
 simp (disch := omega) [go_sem] at hwf
 simp (disch := omega) [Tryz.ntmps214, go_sem]
 try simp (disch := omega) [go_sem, zAq]
 refine zAc (fun h1 => ?_) (fun h1 => ?_) <;> simp at h1
 ·rw [if_pos (by omega)] at hV
  simp (disch := omega) [go_sem, hV]
 ·rw [if_neg (by omega)] at hV
  simp (disch := omega) [go_sem, zAq];refine zAe mixed (fun k : Nat => ⟨[(16, .int .i64 k), (15, .int .i64 l.length), (14, .sl 1 (bts l)), (2, .int .u64 (rgK l k))], [], 1024, [], 30, 0, []⟩) (fun k => k ≤ l.length) (fun k => l.length - k) 0 ?_ ?_ ?_
  ·omega
  ·refine Le.mk [] [] ⟨rfl, rfl, rfl⟩ ?_ ?_ ?_ <;> simp [go_sem, rgK]
  ·intro k hk;simp (disch := omega) [go_sem];refine zAc (fun h => ?_) (fun h => ?_) <;> simp at h
   ·have hn := xPp h;have hi := xMb l k;have e1 : rgK l (k + 1) = yMy (rgK l k) (IntKind.u64.wrap (byAt l k * 2 ^ (8 * k))) := rfl;have hby : 0 ≤ byAt l k ∧ byAt l k < 256 := by
     unfold byAt;have := (l[k]?.getD 0).toNat_lt;omega
    simp (disch := omega) [go_sem, hn, h, zAq, yCw];refine ⟨by omega, ?_⟩
    have hk8 : (8 * (k : Int)).toNat = 8 * k := by omega
    rw [hk8, ← e1];refine zAb (k + 1) (by omega) (by omega) (Le.mk [] [] ⟨rfl, rfl, rfl⟩ ?_ ?_ ?_) <;> simp [go_sem]
   ·have hkk : k = l.length := by omega
    subst hkk;simp (disch := omega) [go_sem, hV]
theorem zMq (l : List UInt8) : FnD Tryz.prog 194 [.sl 1 (bts l)] (.int .u64 (getV l).1) := by
 have q := zOn l
 generalize getV l = r at *
 have hp := zAg l
 refine zAd mixed Tryz.func194 rfl rfl (by simp [Tryz.ntmps194]) fun hwf E => ?_
 clear hwf
 simp (disch := omega) [Tryz.ntmps194, go_sem]
 refine zAa q [] (by simp [go_sem]) (.inl rfl) (by simp [go_sem]) (fun _ => ?_)
 simp (disch := omega) [go_sem]
def ofF (n : Int) : Int := if n < -1073741824 then -70368744177664 else if 1073741824 < n then 70368744177664 else n * 65536
theorem zWp (n : Int) : FnD Tryz.prog 110 [.int .i64 n] (.int .i64 (ofF n)) := by
 by_cases h1 : n < -1073741824
 ·have e : ofF n = -70368744177664 := by unfold ofF; rw [if_pos h1]
  refine zAd mixed Tryz.func110 rfl rfl (by simp [Tryz.ntmps110]) fun hwf E => ?_
  clear hwf;simp (disch := omega) [Tryz.ntmps110, go_sem];simp (disch := omega) [go_sem, h1, e]
 ·by_cases h2 : 1073741824 < n
  ·have e : ofF n = 70368744177664 := by unfold ofF; rw [if_neg h1, if_pos h2]
   refine zAd mixed Tryz.func110 rfl rfl (by simp [Tryz.ntmps110]) fun hwf E => ?_
   clear hwf;simp (disch := omega) [Tryz.ntmps110, go_sem];simp (disch := omega) [go_sem, h1, h2, e]
  ·have e : ofF n = n * 65536 := by unfold ofF; rw [if_neg h1, if_neg h2]
   refine zAd mixed Tryz.func110 rfl rfl (by simp [Tryz.ntmps110]) fun hwf E => ?_
   clear hwf;simp (disch := omega) [Tryz.ntmps110, go_sem];simp (disch := omega) [go_sem, h1, h2, e]
theorem zKx (l : List GapN) : zAz (l.map gapV) := zBd _ (fun c => by simp [gapV, go_sem]) l
theorem yRm (τ : Nat → Nat) (l : List GapN) : rens τ (l.map gapV) = l.map gapV := zDg _ (zKx l)
attribute [go_sem] zKx yRm
theorem yOl (l : List GapN) (hb : l.length ≤ 1048576) : FnR Tryz.prog 90 [] [.sl 5 (l.map gapV)] [⟨.arr, 167, 5, l.map gapV⟩] (.obj 0 l.length) := by
 have hp := zKx l
 refine zIz (fun hx => ?_) ?_
 ·have hl : l = [] := by simpa using hx
  subst hl;refine zAw mixed Tryz.func90 rfl rfl (by simp [Tryz.ntmps90]) (by simp) fun hwf E => ?_
  simp (disch := omega) [Tryz.ntmps90, go_sem];refine Le.mk [(0, none)] [] ⟨rfl, rfl, rfl⟩ ?_ ?_ ?_ <;> simp [go_sem]
 ·refine zAw mixed Tryz.func90 rfl rfl (by simp [Tryz.ntmps90]) (by simp) fun hwf E => ?_
  simp (disch := omega) [go_sem, List.length_map] at hwf;simp (disch := omega) [Tryz.ntmps90, go_sem, List.length_map];refine ⟨⟨by omega, by omega⟩, Le.mk [(0, some 64)] [64] ⟨rfl, rfl, rfl⟩ ?_ ?_ ?_⟩ <;> simp [go_sem, hp]
end
section
theorem zPj (x : Int) (h : 0 ≤ x) : FnD Tryz.prog 173 [.int .i64 x] (.int .i64 (min x 70368744177664)) := by
 refine zAd mixed Tryz.func173 rfl rfl (by simp [Tryz.ntmps173]) fun hwf E => ?_
 clear hwf
 simp (disch := omega) [Tryz.ntmps173, go_sem]
 all_goals first | omega | (simp_all []; done) | (simp_all []; omega) | ((repeat' split) <;> first | omega | (simp_all []; done) | (simp_all []; omega)) | skip
theorem yYy (a b : Int) (ha : 0 ≤ a ∧ a ≤ 70368744177664) (hb : 1 ≤ b ∧ b ≤ 70368744177664) : FnD Tryz.prog 109 [.int .i64 a, .int .i64 b] (.tup [.int .i64 (min (a * 65536 / b) 70368744177664), .int .i64 0]) := by
 have q1 := zPj a ha.1
 have q2 := zPj b (by omega)
 rw [show min a 70368744177664 = a by omega] at q1
 rw [show min b 70368744177664 = b by omega] at q2
 have h0 : 0 ≤ a * 65536 / b := Int.ediv_nonneg (by omega) (by omega)
 have h1 : a * 65536 / b ≤ a * 65536 := Int.ediv_le_self _ (by omega)
 have q3 := zPj (a * 65536 / b) h0
 have e1 : IntKind.i64.wrap (a * 65536) = a * 65536 := zDw (by omega) (by omega)
 have e2 : (a * 65536).tdiv b = a * 65536 / b := Int.tdiv_eq_ediv_of_nonneg (by omega)
 have e3 : IntKind.i64.wrap (a * 65536 / b) = a * 65536 / b := zDw (by omega) (by omega)
 generalize a * 65536 / b = q at *
 refine zAd mixed Tryz.func109 rfl rfl (by simp [Tryz.ntmps109]) fun hwf E => ?_
 clear hwf
 simp (disch := omega) [Tryz.ntmps109, go_sem]
 refine zAa q1 [] (by simp [go_sem]) (.inl rfl) (by simp [go_sem]) (fun _ => ?_)
 simp (disch := omega) [go_sem]
 refine zAa q2 [] (by simp [go_sem]) (.inl rfl) (by simp [go_sem]) (fun _ => ?_)
 simp (disch := omega) [go_sem]
 refine zAc (fun b1 => ?_) (fun b1 => ?_) <;> simp at b1
 ·exact absurd b1 (by omega)
 ·simp (disch := omega) [go_sem, e1, e2, e3];refine ⟨by omega, ?_⟩
  refine zAc (fun b2 => ?_) (fun b2 => ?_) <;> simp at b2
  ·exact absurd b2.2 (by have : ¬ (a * 65536 < 0) := by omega
                         have : ¬ (b < 0) := by omega
                         simp [*])
  ·simp (disch := omega) [go_sem];refine zAa q3 [] (by simp [go_sem]) (.inl rfl) (by simp [go_sem]) (fun _ => ?_)
   simp (disch := omega) [go_sem]
end
section
theorem xCb : ∀ i, i < 64 → zCx Tryz.prog 5 (nth yEb 0) i = some (.int .u8 (zIq.getD i 0)) ∧ 0 ≤ zIq.getD i 0 ∧ zIq.getD i 0 ≤ 63 := by
 intro i hi
 have h1 : ∀ k : Fin 64, zIq[k.val]? = some (zIq.getD k.val 0) ∧ 0 ≤ zIq.getD k.val 0 ∧ zIq.getD k.val 0 ≤ 63 := by decide +kernel
 obtain ⟨h2, h3, h4⟩ := h1 ⟨i, hi⟩
 refine ⟨?_, h3, h4⟩
 show (match zAl Tryz.prog 5, (nth yEb 0).cl with
  | some true, some cs => if i = 0 ∧ cs.length = Tryz.prog.cellsOf 5 then some (nth yEb 0) else if i + Tryz.prog.cellsOf 5 ≤ cs.length then some (.agg ((cs.drop i).take (Tryz.prog.cellsOf 5))) else none
  | some false, some cs => cs[i]?
  | some false, none => if i = 0 then (match nth yEb 0 with | .opt _ _ | .tup _ => none | _ => some (nth yEb 0)) else none
  | _, _ => none) = _
 simp only [xRg]
 show (zIq.map fun n : Int => V.int .u8 n)[i]? = _
 rw [List.getElem?_map]
 rw [show zIq[i]? = some (zIq.getD i 0) from h2]; rfl
theorem xNw (x : Int) (h0 : 0 ≤ x ∧ x < 18446744073709551616) : ∃ r : Int, (0 ≤ r ∧ r ≤ 64) ∧ FnD Tryz.prog 202 [.int .u64 x] (.int .i64 r) tabG := by
 by_cases hx : x = 0
 ·subst hx;refine ⟨64, by decide, ?_⟩
  refine zAd mixed Tryz.func202 rfl rfl (by simp [Tryz.ntmps202]) fun hwf E => ?_
  clear hwf;simp (disch := omega) [Tryz.ntmps202, go_sem]
 ·obtain ⟨ix, hix⟩ : ∃ ix : Int, (IntKind.u64.wrap (xAp x (IntKind.u64.wrap (-x)) * 285870213051353865)).fdiv 288230376151711744 = ix := ⟨_, rfl⟩;have hb := zNm (xAp x (IntKind.u64.wrap (-x)) * 285870213051353865);have hi : 0 ≤ ix ∧ ix < 64 := by
   rw [← hix, Int.fdiv_eq_ediv_of_nonneg _ (by omega)]
   omega
  obtain ⟨t1, t2, t3⟩ := xCb ix.toNat (by omega)
  refine ⟨zIq.getD ix.toNat 0, ⟨t2, by omega⟩, ?_⟩
  refine zAd mixed Tryz.func202 rfl rfl (by simp [Tryz.ntmps202]) fun hwf E => ?_
  clear hwf;simp (disch := omega) [Tryz.ntmps202, go_sem];try simp (disch := omega) [go_sem, tabG]
  refine zAc (fun h9 => ?_) (fun h9 => ?_) <;> simp at h9
  ·exact absurd h9 hx
  ·have hl : (0 : Nat) < yEb.length := by decide
   simp (disch := omega) [go_sem, zXc, hix];refine ⟨hi, ?_⟩;rw [zQg hl] at t1;simp (disch := omega) [go_sem, hl, t1];simp only [List.getD_eq_getElem?_getD] at t2 t3;exact zDw (by omega) (by omega)
noncomputable def tz64 (x : Int) : Int := open Classical in if h : 0 ≤ x ∧ x < 18446744073709551616 then Classical.choose (xNw x h) else 0
theorem xNx (x : Int) : 0 ≤ tz64 x ∧ tz64 x ≤ 64 := by
 unfold tz64
 split
 ·rename_i h; exact (Classical.choose_spec (xNw x h)).1
 ·exact ⟨by decide, by decide⟩
theorem yPx (x : Int) (h : 0 ≤ x ∧ x < 18446744073709551616) : FnD Tryz.prog 202 [.int .u64 x] (.int .i64 (tz64 x)) tabG := by
 unfold tz64
 rw [dif_pos h]
 exact (Classical.choose_spec (xNw x h)).2
def behA (l p m : Nat) : Int := (yMy l (IntKind.u64.wrap ((l : Int) * 2 ^ m))).fdiv (2 ^ (p + 1))
theorem xTo (l p m : Nat) : 0 ≤ behA l p m ∧ behA l p m < 18446744073709551616 := by
 unfold behA
 have hb := zNm ((BitVec.ofInt 64 (l : Int) ||| BitVec.ofInt 64 (IntKind.u64.wrap ((l : Int) * 2 ^ m))).toNat : Nat)
 unfold yMy
 generalize IntKind.u64.wrap _ = y at hb ⊢
 obtain ⟨n, rfl⟩ := Int.eq_ofNat_of_zero_le hb.1
 rw [zGe]
 have : n / 2 ^ (p + 1) ≤ n := Nat.div_le_self _ _
 generalize n / 2 ^ (p + 1) = q at *
 omega
noncomputable def behN (l p m : Nat) : Int := ((p : Int) + 1 + tz64 (behA l p m)) % m
theorem yZv (l p m : Nat) (hm : 0 < m) : 0 ≤ behN l p m ∧ behN l p m < m := by
 unfold behN
 exact ⟨Int.emod_nonneg _ (by omega), Int.emod_lt_of_pos _ (by omega)⟩
theorem yOq (l p m : Nat) (hl : l < 4294967296) (hp : p ≤ 8) (hm : 0 < m ∧ m ≤ 8) : FnD Tryz.prog 161 [.int .u32 l, .int .i64 p, .int .i64 m] (.int .i64 (behN l p m)) tabG := by
 have hA := xTo l p m
 have q := yPx (behA l p m) hA
 have ht := xNx (behA l p m)
 have hN : behN l p m = ((p : Int) + 1 + tz64 (behA l p m)) % m := rfl
 generalize behN l p m = r at *
 have hAe : (yMy l (IntKind.u64.wrap ((l : Int) * 2 ^ m))).fdiv (2 ^ (p + 1)) = behA l p m := rfl
 generalize behA l p m = a at *
 generalize tz64 a = t at *
 refine zAd mixed Tryz.func161 rfl rfl (by simp [Tryz.ntmps161]) fun hwf E => ?_
 clear hwf
 simp (disch := omega) [Tryz.ntmps161, go_sem]
 try simp (disch := omega) [go_sem, yCw]
 refine ⟨by omega, ?_⟩
 rw [hAe]
 refine zAa q [] (by simp [go_sem]) (.inl rfl) (by simp [go_sem]) (fun _ => ?_) (by simp [tabG, go_sem])
 simp (disch := omega) [go_sem]
 exact ⟨by omega, by rw [hN, Int.tmod_eq_emod_of_nonneg (by omega)]⟩
end
section
def seqV (p n : Int) : V := .agg [.int .i64 p, .int .i64 n]
def othN (s : Sit) (p c : Nat) : Nat := zNh (calN s c) (bitN p)
def yPy (s : Sit) (p c g : Nat) (n : Int) : Bool := (decide ((pAt s p).min ≤ n) && (othN s p c != 0)) && (g.testBit p || decide ((pAt s p).max ≤ n))
noncomputable def seqP (s : Sit) (p : Nat) (n : Int) (w : SafN) (c g : Nat) : Int × Int :=
 if zYr s w.groups p = false then (p, 0)
 else if yPy s p c g (addO n 1048576) = true then (behN (othN s p c) p s.phases.length, 0) else (p, addO n 1048576)
set_option maxHeartbeats 4000000 in
theorem yMb (s : Sit) (p : Nat) (n : Int) (w : SafN) (c g : Nat) (hs : zAk s) (hp : p < s.phases.length) (hn : 0 ≤ n ∧ n ≤ 1048576) (hg : w.groups.length = s.groups.length) (hc : c < 4294967296) (hgg : g < 4294967296) :
  FnD Tryz.prog 101 [sitV s, seqV p n, safV w, .int .u32 c, .int .u32 g] (.tup [seqV (seqP s p n w c g).1 (seqP s p n w c g).2, .sl 1 (lts (zLf s (seqP s p n w c g).1)), .int .i64 0]) tabG := by
 have hsv := zAs s
 have h8 : s.phases.length ≤ 8 := hs.shaped.2.2.2.1.2
 have e0 : zAm s = 0 := by unfold zAm; rw [if_pos hs]
 have qc := zCe s
 rw [e0] at qc
 have hE : zYs s (zAm s) w p = 0 := by
  unfold zYs zIp; rw [e0, if_neg (by simp), if_neg (by simp [hg]), if_neg (by omega)]
 have qF := zPh s w p
 have hFB : zUu s w p = zYr s w.groups p := by unfold zUu; rw [hE]; simp
 rw [hE, hFB] at qF
 have qA : ∀ x : Int, 0 ≤ x ∧ x < s.phases.length → FnD Tryz.prog 104 [sitV s, .int .i64 x] (.tup [.sl 1 (lts (zLf s x)), .int .i64 0]) tabG := fun x hx => by
  have q := zVk s x;have e : tE s (zAm s) x = 0 := by unfold tE zIp; rw [e0, if_neg (by simp), if_neg (by simp), if_neg (by omega)]
  rw [e] at q; exact q
 have qK := yHb s c hc h8
 have hR : seqP s p n w c g = if zYr s w.groups p = false then ((p : Int), 0) else if yPy s p c g (addO n 1048576) = true then (behN (othN s p c) p s.phases.length, 0) else (p, addO n 1048576) := rfl
 generalize seqP s p n w c g = r at *
 obtain ⟨gr, st, fl⟩ := w
 simp only at *
 generalize zYr s gr p = f at *
 rw [hsv] at qc qF qK qA ⊢
 unfold safV at *
 unfold seqV
 simp only at *
 refine zAd mixed Tryz.func101 rfl rfl (by simp [Tryz.ntmps101]) fun hwf E => ?_
 clear hwf
 simp (disch := omega) [Tryz.ntmps101, go_sem]
 refine zAa qc [] (by simp [go_sem]) (.inl rfl) (by simp [go_sem]) (fun _ => ?_) (by simp [tabG, go_sem])
 simp (disch := omega) [go_sem]
 refine zAc (fun h1 => ?_) (fun h1 => ?_) <;> simp at h1
 ·exact absurd h1 (by omega)
 ·simp (disch := omega) [go_sem];refine zAc (fun a1 => ?_) (fun a1 => ?_) <;> simp at a1
  ·exact absurd a1 (by omega)
  ·simp (disch := omega) [go_sem];refine zAc (fun a2 => ?_) (fun a2 => ?_) <;> simp at a2
   ·exact absurd a2 (by omega)
   ·simp (disch := omega) [go_sem];refine zAc (fun a3 => ?_) (fun a3 => ?_) <;> simp at a3
    ·exact absurd a3 (by omega)
    ·simp (disch := omega) [go_sem];refine zAc (fun a4 => ?_) (fun a4 => ?_) <;> simp at a4
     ·exact absurd a4 (by omega)
     ·simp (disch := omega) [go_sem]
      ·skip
       refine zAa qF [] (by simp [go_sem]) (.inl rfl) (by simp [go_sem]) (fun _ => ?_) (by simp [tabG, go_sem])
       simp (disch := omega) [go_sem];cases f
       ·rw [if_pos rfl] at hR;have q2 := qA p ⟨by omega, by omega⟩
        subst hR;simp (disch := omega) [go_sem];refine zAa q2 [] (by simp [go_sem]) (.inl rfl) (by simp [go_sem]) (fun _ => ?_) (by simp [tabG, go_sem])
        simp (disch := omega) [go_sem]
       ·rw [if_neg (by decide)] at hR
        have hm := nthP hp;have hg2 : ∀ h', s.phases[p]'h' = pAt s p := fun h' => (yIn h').symm
        have hn2 : (if 1048576 < n + 1 then 1048576 else n + 1) = addO n 1048576 := rfl
        have hn3 : 0 ≤ addO n 1048576 ∧ addO n 1048576 ≤ 1048576 := by unfold addO; split <;> omega
        generalize addO n 1048576 = n2 at *;have hsh := zPl (show p < 32 by omega)
        have hb := zGc (p : Int);obtain ⟨m, hb2, hr⟩ := zLt (b := p) hgg;have hmb : ((m : Int) == 1) = g.testBit p := by
         rw [Bool.eq_iff_iff, beq_iff_eq, ← hr]; omega
        have hO : zNh (calN s c) (bitN p) = othN s p c := rfl;have hol := zXi (calN s c) (bitN p);rw [hO] at hol;have hT : yPy s p c g n2 = ((decide ((pAt s p).min ≤ n2) && (othN s p c != 0)) && (g.testBit p || decide ((pAt s p).max ≤ n2))) := rfl
        generalize yPy s p c g n2 = tq at *;simp (disch := omega) [go_sem, hm, hp, phaV, hn2];refine zAa qK [] (by simp [go_sem]) (.inl rfl) (by simp [go_sem]) (fun _ => ?_)
        simp (disch := omega) [go_sem];simp (disch := omega) [go_sem, hsh, hO, zGe, hb2, hmb];refine ⟨.inl (by kernel_rfl), ?_⟩
        refine zAc (fun h5 => ?_) (fun h5 => ?_) <;> simp at h5
        ·have ht : tq = true := by rw [hT]; simpa using h5
         rw [if_pos ht] at hR;have qB := yOq (othN s p c) p s.phases.length hol (by omega) ⟨by omega, h8⟩
         have hbi := yZv (othN s p c) p s.phases.length (by omega)
         generalize behN (othN s p c) p s.phases.length = x at *;have q2 := qA x hbi;subst hR;simp (disch := omega) [go_sem];refine zAa qB [] (by simp [go_sem]) (.inl rfl) (by simp [go_sem]) (fun _ => ?_) (by simp [tabG, go_sem])
         simp (disch := omega) [go_sem];refine zAa q2 [] (by simp [go_sem]) (.inl rfl) (by simp [go_sem]) (fun _ => ?_) (by simp [tabG, go_sem])
         simp (disch := omega) [go_sem]
        ·have ht : tq = false := by rw [hT]; simpa using h5
         rw [ht, if_neg (by decide)] at hR
         have q2 := qA p ⟨by omega, by omega⟩
         subst hR;simp (disch := omega) [go_sem];refine zAa q2 [] (by simp [go_sem]) (.inl rfl) (by simp [go_sem]) (fun _ => ?_) (by simp [tabG, go_sem])
         simp (disch := omega) [go_sem]
end
end Go.Proofs.YtlgbdpabcbcmcaaGreatDoor
