/- The layer site: groups, and what lies between them. -/
import Derived.Test.YthjojamcolmbdaaDoorSite6
namespace Go.Proofs.YthjojamcolmbdaaDoor
open Go.AM Go.RowKit
set_option maxRecDepth 100000

def grpOk (g : Grp) : Prop := (g.kind = 1 ∨ g.kind = 2) ∧ (1 ≤ g.min ∧ g.min ≤ 1048576) ∧ (1 ≤ g.yellow ∧ g.yellow ≤ 1048576)
def betw (s : Sit) (a b : Nat) : Int := (s.between.getD a []).getD b 0
def isAp (s : Sit) (a b : Nat) : Bool := (s.apart.getD a 0).testBit b
def yelAt (s : Sit) (a : Nat) : Int := ((s.groups[a]?).map Grp.yellow).getD 0
def cellOk (s : Sit) (a b : Nat) : Prop := isAp s a b = isAp s b a ∧ (isAp s a b = true → a ≠ b ∧ yelAt s a ≤ betw s a b ∧ betw s a b ≤ 1048576) ∧ (isAp s a b = false → betw s a b = 0)
def lineOk (s : Sit) (a : Nat) : Prop := (∀ h : a < s.groups.length, grpOk s.groups[a]) ∧ ∀ b, b < s.groups.length → cellOk s a b
def ApartOk (s : Sit) : Prop := ∀ a, a < s.groups.length → lineOk s a
noncomputable instance (s : Sit) : Decidable (ApartOk s) := Classical.propDecidable _

theorem hasNat_spec (t b : Nat) (ht : t < 4294967296) : FnD Tryd.prog 78 [.int .u32 t, .int .i64 b] (.bool (t.testBit b)) := by
  have h := has_spec t b ht
  rwa [show hasN t b = t.testBit b by simp [hasN]] at h

set_option maxHeartbeats 1000000 in
theorem apart_spec (s : Sit) (hS : Shaped s) : FnD Tryd.prog 71 [sitV s] (.bool (decide (ApartOk s))) := by
  have hpu := (⟨grps_pure s.groups, phas_pure s.phases, eyes_pure s.eyes, plns_pure s.plans, sets_pure s.apart, rows_pure s.between⟩ : _ ∧ _ ∧ _ ∧ _ ∧ _ ∧ _)
  obtain ⟨hp1, hp2, hp3, hp4, hp5, hp6⟩ := hpu
  obtain ⟨hn, ha, hb, hph, -, -, hrow⟩ := hS
  unfold sitV
  refine fnD_of mixed Tryd.func71 rfl rfl (by simp [Tryd.ntmps71]) fun hwf E => ?_
  simp (disch := omega) [go_sem] at hwf
  simp (disch := omega) [Tryd.ntmps71, go_sem]
  refine awz_loop mixed (fun k : Nat => ⟨[(11, .int .i64 k), (10, .int .i64 s.groups.length), (9, .sl 3 (s.groups.map grpV)), (1, .ptr 0 1 0 0), (2, .bool false)], [(0, ⟨.box, 29, 12, [sitV s]⟩)], 1024, [], 83, 0, []⟩)
    (fun k => k ≤ s.groups.length ∧ ∀ a, a < k → lineOk s a) (fun k => s.groups.length - k) 0 ⟨by omega, fun a ha => by omega⟩ ?_ ?_
  · refine Le.mk [(0, some 0)] [0] ⟨rfl, rfl, rfl⟩ ?_ ?_ ?_ <;> simp [go_sem, sitV, hp1, hp2, hp3, hp4, hp5, hp6]
  · rintro k ⟨hk, hno⟩
    simp (disch := omega) [go_sem, sitV]
    refine br_of (fun h => ?_) (fun h => ?_) <;> simp at h
    · have hg : nth (s.groups.map grpV) k = grpV s.groups[k] := nth_map h
      have bad : ¬ grpOk s.groups[k] → ¬ ApartOk s := fun hb hA => hb ((hA k h).1 h)
      have hka : k < s.apart.length := by omega
      have hkb : k < s.between.length := by omega
      have hap : ∀ a (h : a < s.apart.length), s.apart[a] < 4294967296 := fun a h => by
        have h2 := (hrow a (by omega)).2
        rw [show s.apart.getD a 0 = s.apart[a] by simp [h]] at h2
        have h3 : 2 ^ s.groups.length ≤ 2 ^ 16 := Nat.pow_le_pow_right (by omega) hn.2
        omega
      have hrl : s.between[k].length = s.groups.length := by
        have h2 := (hrow k hkb).1
        rwa [show s.between.getD k [] = s.between[k] by simp [hkb]] at h2
      have hy : s.groups[k].yellow = yelAt s k := by simp [yelAt, h]
      have pure6 := (⟨hp1, hp2, hp3, hp4, hp5, hp6⟩ : _ ∧ _ ∧ _ ∧ _ ∧ _ ∧ _)
      by_cases hkd : s.groups[k].kind = 1 ∨ s.groups[k].kind = 2
      · have tail : ∀ kd : Int, (kd = 1 ∨ kd = 2) → s.groups[k].kind = kd → True := fun _ _ _ => trivial
        rcases hkd with e | e
        all_goals
          simp (disch := omega) [go_sem, h, hg, grpV, sitV, e]
          refine callK_bool (ticks_spec [s.groups[k].min, s.groups[k].yellow]) [1344] (by simp [go_sem, ints]) (fun h2 => ?_) (fun h2 => ?_)
          · have hgo : grpOk s.groups[k] := ⟨by omega, by simp [inN] at h2; omega, by simp [inN] at h2; omega⟩
            have hyb := hgo.2.2
            rw [hy] at hyb
            simp (disch := omega) [go_sem, sitV, nth_rows, rows_len, hkb, ints_len, hrl, hy]
            refine awz_loop mixed (fun m : Nat => ⟨[(39, .int .i64 m), (38, .int .i64 s.groups.length), (37, .sl 1 (ints s.between[k])), (3, .int .i64 k), (4, .ptr 32 1 0 0), (11, .int .i64 k), (10, .int .i64 s.groups.length), (9, .sl 3 (s.groups.map grpV)), (1, .ptr 0 1 0 0), (2, .bool false)],
                [(0, ⟨.box, 29, 12, [sitV s]⟩), (32, ⟨.box, 117, 3, [grpV s.groups[k]]⟩)], 4096, [], 83, 0, []⟩)
              (fun m => m ≤ s.groups.length ∧ ∀ b, b < m → cellOk s k b) (fun m => s.groups.length - m) 0 ⟨by omega, fun b hb => by omega⟩ ?_ ?_
            · refine Le.mk [(0, some 0), (32, some 1088)] [0, 1088] ⟨rfl, rfl, rfl⟩ ?_ ?_ ?_ <;> simp [go_sem, sitV, grpV, hp1, hp2, hp3, hp4, hp5, hp6, ints_pure, e, hy]
            · rintro m ⟨hm, hmo⟩
              simp (disch := omega) [go_sem, sitV]
              refine br_of (fun h3 => ?_) (fun h3 => ?_) <;> simp at h3
              · have hma : m < s.apart.length := by omega
                have hmr : m < s.between[k].length := by omega
                have i1 : s.apart[k].testBit m = isAp s k m := by simp [isAp, hka]
                have i2 : s.apart[m].testBit k = isAp s m k := by simp [isAp, hma]
                have i3 : s.between[k][m] = betw s k m := by simp [betw, hkb, hmr]
                have q1 := hasNat_spec s.apart[k] m (hap k hka)
                have q2 := hasNat_spec s.apart[m] k (hap m hma)
                rw [i1] at q1
                rw [i2] at q2
                have badc : ¬ cellOk s k m → ¬ ApartOk s := fun hb hA => hb ((hA k h).2 m h3)
                simp (disch := omega) [go_sem, sitV, grpV, nth_sets, sets_len, hka, nth_ints, ints_len, hmr, i3]
                refine callK_bool q1 [] (by simp [go_sem]) (fun j1 => ?_) (fun j1 => ?_)
                · simp (disch := omega) [go_sem, sitV, nth_sets, sets_len, hma]
                  refine callK_bool q2 [] (by simp [go_sem]) (fun j2 => ?_) (fun j2 => ?_)
                  · simp (disch := omega) [go_sem]
                    refine br_of (fun j3 => ?_) (fun j3 => ?_) <;> simp at j3
                    · simp (disch := omega) [go_sem, j3]
                      exact badc fun hc => (hc.2.1 j1).1 (by omega)
                    · simp (disch := omega) [go_sem, grpV, hy, j3]
                      refine callK_bool (in_spec (betw s k m) (yelAt s k) 1048576) [] (by simp [go_sem]) (fun j4 => ?_) (fun j4 => ?_)
                      · have j5 := inN_iff.1 j4
                        simp (disch := omega) [go_sem]
                        refine round_of (m + 1) ⟨by omega, fun b hb => ?_⟩ (by omega) (Le.mk [(0, some 0), (32, some 32)] [0, 32] ⟨rfl, rfl, rfl⟩ ?_ ?_ ?_)
                        · by_cases eb : b = m
                          · subst eb; exact ⟨by rw [j1, j2], fun _ => ⟨by omega, j5⟩, fun j6 => by rw [j1] at j6; cases j6⟩
                          · exact hmo b (by omega)
                        all_goals simp [go_sem, sitV, grpV, hp1, hp2, hp3, hp4, hp5, hp6, ints_pure, hy]
                      · simp (disch := omega) [go_sem]
                        exact badc fun hc => by have := (hc.2.1 j1).2; rw [← inN_iff, j4] at this; cases this
                  · simp (disch := omega) [go_sem]
                    exact badc fun hc => by have := hc.1; rw [j1, j2] at this; cases this
                · simp (disch := omega) [go_sem, sitV, nth_sets, sets_len, hma]
                  refine callK_bool q2 [] (by simp [go_sem]) (fun j2 => ?_) (fun j2 => ?_)
                  · simp (disch := omega) [go_sem]
                    exact badc fun hc => by have := hc.1; rw [j1, j2] at this; cases this
                  · simp (disch := omega) [go_sem]
                    refine br_of (fun j3 => ?_) (fun j3 => ?_) <;> simp at j3
                    · simp (disch := omega) [go_sem, j3]
                      exact badc fun hc => j3 (hc.2.2 j1)
                    · simp (disch := omega) [go_sem, j3]
                      refine round_of (m + 1) ⟨by omega, fun b hb => ?_⟩ (by omega) (Le.mk [(0, some 0), (32, some 32)] [0, 32] ⟨rfl, rfl, rfl⟩ ?_ ?_ ?_)
                      · by_cases eb : b = m
                        · subst eb; exact ⟨by rw [j1, j2], fun j6 => (by rw [j1] at j6; cases j6), fun _ => j3⟩
                        · exact hmo b (by omega)
                      all_goals simp [go_sem, sitV, grpV, hp1, hp2, hp3, hp4, hp5, hp6, ints_pure, hy]
              · simp (disch := omega) [go_sem]
                refine round_of (k + 1) ⟨by omega, fun b hb => ?_⟩ (by omega) (Le.mk [(0, some 0)] [0] ⟨rfl, rfl, rfl⟩ ?_ ?_ ?_)
                · by_cases eb : b = k
                  · subst eb; exact ⟨fun _ => hgo, fun c hc => hmo c (by omega)⟩
                  · exact hno b (by omega)
                all_goals simp [go_sem, sitV, grpV, hp1, hp2, hp3, hp4, hp5, hp6, ints_pure]
          · simp (disch := omega) [go_sem]
            apply bad
            rintro ⟨_, c1, c2⟩
            simp [inN] at h2; omega
      · have e1 : ¬ s.groups[k].kind = 1 := fun e => hkd (.inl e)
        have e2 : ¬ s.groups[k].kind = 2 := fun e => hkd (.inr e)
        have e1' : (s.groups[k].kind != 1) = true := by simp [e1]
        have e2' : (s.groups[k].kind != 2) = true := by simp [e2]
        simp (disch := omega) [go_sem, h, hg, grpV, sitV, e1', e2']
        exact bad fun hh => hkd hh.1
    · simp (disch := omega) [go_sem]
      exact fun a ha => hno a (by omega)
end Go.Proofs.YthjojamcolmbdaaDoor
