
/- The document's own answer on sites. -/
import Derived.Test.YtdeionjkcmpnpaaGreatDoorGreat
import Derived.Test.YtdeionjkcmpnpaaGreatDoorNetA
set_option linter.unusedSimpArgs false
set_option linter.unusedVariables false
namespace Go.Proofs.YtdeionjkcmpnpaaGreatDoor
open Go.AM Go.RowKit
set_option maxRecDepth 100000

/-! The document's own answer on sites: small functions. -/
theorem rin_spec (x a b : Int) : FnD Tryz.prog 152 [.int .i64 x, .int .i64 a, .int .i64 b] (.bool (inN x a b)) := by
  refine fnD_of mixed Tryz.func152 rfl rfl (by simp [Tryz.ntmps152]) fun hwf E => ?_
  simp (disch := omega) [Tryz.ntmps152, go_sem]
  rfl
theorem shr_bit (t b : Nat) : (((t : Int).fdiv (2 ^ b)).tmod 2 = 1) ↔ t.testBit b = true := by
  have e1 : ((2 : Int) ^ b) = ((2 ^ b : Nat) : Int) := by simp
  rw [e1, Int.fdiv_eq_ediv_of_nonneg _ (Int.natCast_nonneg _), show ((t : Int) / ((2 ^ b : Nat) : Int)) = ((t / 2 ^ b : Nat) : Int) from (Int.natCast_ediv _ _).symm, Int.tmod_eq_emod_of_nonneg (Int.natCast_nonneg _), Nat.testBit_eq_decide_div_mod_eq, decide_eq_true_iff]
  omega
theorem rhas_spec (t b : Nat) (hb : b < 32) (ht : t < 4294967296) : FnD Tryz.prog 196 [.int .u32 t, .int .i64 b] (.bool (t.testBit b)) := by
  have hs := shr_bit t b
  refine fnD_of mixed Tryz.func196 rfl rfl (by simp [Tryz.ntmps196]) fun hwf E => ?_
  simp (disch := omega) [Tryz.ntmps196, go_sem]
  rw [Bool.eq_iff_iff]
  simp only [Bool.and_eq_true, decide_eq_true_eq, beq_iff_eq, hs]
  exact ⟨fun h => h.2, fun h => ⟨by omega, h⟩⟩
theorem rwith_spec (t b : Nat) (hb : b < 32) (ht : t < 4294967296) : FnD Tryz.prog 197 [.int .u32 t, .int .i64 b] (.int .u32 (t ||| 2 ^ b : Nat)) := by
  refine fnD_of mixed Tryz.func197 rfl rfl (by simp [Tryz.ntmps197]) fun hwf E => ?_
  have hb2 : ¬ (31 : Int) < b := by omega
  have hb0 : ¬ (b : Int) < 0 := by omega
  simp (disch := omega) [Tryz.ntmps197, go_sem, hb2, hb0]
  refine callK_bool (rhas_spec t b hb ht) [] (by simp [go_sem]) (fun h1 => ?_) (fun h1 => ?_)
  · have e : t ||| 2 ^ b = t := by
      apply Nat.eq_of_testBit_eq
      intro j
      rw [Nat.testBit_or, Nat.testBit_two_pow]
      by_cases e : b = j
      · subst e; simp [h1]
      · simp [e]
    simp (disch := omega) [go_sem, hb0, hb2, e]
  · simp (disch := omega) [go_sem, hb0, hb2]
    have hp : 2 ^ b < 4294967296 := Nat.lt_of_lt_of_le (Nat.pow_lt_pow_right (by omega) hb) (by decide)
    have e1 : ((2 : Int) ^ b) = ((2 ^ b : Nat) : Int) := by simp
    have hv := BitVec.add_eq_or_of_and_eq_zero (BitVec.ofNat 32 t) (BitVec.ofNat 32 (2 ^ b)) (by
      apply BitVec.eq_of_toNat_eq
      rw [and_nat ht hp]
      apply Nat.eq_of_testBit_eq
      intro j
      rw [Nat.testBit_and, Nat.testBit_two_pow]
      by_cases e : b = j
      · subst e; simp [h1]
      · simp [e])
    have hv2 := congrArg BitVec.toNat hv
    rw [or_nat ht hp, BitVec.toNat_add, BitVec.toNat_ofNat, BitVec.toNat_ofNat, Nat.mod_eq_of_lt (show t < 2 ^ 32 from ht), Nat.mod_eq_of_lt (show 2 ^ b < 2 ^ 32 from hp)] at hv2
    have hv3 : ((t + 2 ^ b : Nat) : Int) % 4294967296 = ((t ||| 2 ^ b : Nat) : Int) := by rw [← hv2]; simp
    rw [e1]
    clear e1 hv hv2
    generalize 2 ^ b = q at *
    rw [u32_wrap (n := (q : Int)) (by omega) (by omega), ← hv3]
    unfold IntKind.wrap
    simp [IntKind.bits, IntKind.signed]
def popK (t k : Nat) : Nat := (List.range k).countP fun j => t.testBit j
theorem rcount_spec (t : Nat) (ht : t < 4294967296) : FnD Tryz.prog 198 [.int .u32 t] (.int .i64 (popN t)) := by
  refine fnD_of mixed Tryz.func198 rfl rfl (by simp [Tryz.ntmps198]) fun hwf E => ?_
  simp (disch := omega) [Tryz.ntmps198, go_sem]
  refine awz_loop mixed (fun k : Nat => ⟨[(4, .int .i64 k), (3, .int .i64 (popK t k)), (0, .int .u32 t), (2, .int .i64 0)], [], 1024, [], 15, 0, []⟩)
    (fun k => k ≤ 32) (fun k => 32 - k) 0 (by omega) ?_ ?_
  · refine Le.mk [] [] ⟨rfl, rfl, rfl⟩ ?_ ?_ ?_ <;> simp [go_sem, popK]
  · intro k hk
    have hle : popK t k ≤ k := by
      unfold popK
      have := List.countP_le_length (p := fun j => t.testBit j) (l := List.range k)
      simpa using this
    have hs : popK t (k + 1) = popK t k + if t.testBit k = true then 1 else 0 := by
      unfold popK
      rw [List.range_succ, List.countP_append]; simp [List.countP_cons]
    simp (disch := omega) [go_sem]
    refine br_of (fun h => ?_) (fun h => ?_) <;> simp at h
    · simp (disch := omega) [go_sem]
      refine callK_bool (rhas_spec t k (by omega) ht) [] (by simp [go_sem]) (fun h1 => ?_) (fun h1 => ?_)
      · simp (disch := omega) [go_sem]
        refine round_of (k + 1) (by omega) (by omega) (Le.mk [] [] ⟨rfl, rfl, rfl⟩ ?_ ?_ ?_) <;> simp [go_sem, hs, h1]
      · simp (disch := omega) [go_sem]
        refine round_of (k + 1) (by omega) (by omega) (Le.mk [] [] ⟨rfl, rfl, rfl⟩ ?_ ?_ ?_) <;> simp [go_sem, hs, h1]
    · have hkl : k = 32 := by omega
      subst hkl
      simp (disch := omega) [go_sem]
      rfl
theorem rapart_spec (s : Sit) (a b : Nat) (ha : a < s.apart.length) (hb : b < 32) : FnD Tryz.prog 195 [sitV s, .int .i64 a, .int .i64 b] (.bool (isAp s a b)) := by
  have hpu := (⟨grps_pure s.groups, phas_pure s.phases, eyes_pure s.eyes, plns_pure s.plans, sets_pure s.apart, rows_pure s.between⟩ : _ ∧ _ ∧ _ ∧ _ ∧ _ ∧ _)
  obtain ⟨hp1, hp2, hp3, hp4, hp5, hp6⟩ := hpu
  unfold sitV
  refine fnD_of mixed Tryz.func195 rfl rfl (by simp [Tryz.ntmps195]) fun hwf E => ?_
  simp (disch := omega) [go_sem] at hwf
  have hlt : s.apart[a] < 4294967296 := by
    have := wfs_mem (f := fun n : Nat => V.int .u32 n) hwf.1.2.2.1.2 s.apart[a] (List.getElem_mem ha)
    simp [go_sem] at this
    omega
  have q1 := rhas_spec s.apart[a] b hb hlt
  rw [show s.apart[a].testBit b = isAp s a b by simp [isAp, ha]] at q1
  simp (disch := omega) [Tryz.ntmps195, go_sem, nth_sets, sets_len, ha]
  refine callK_data q1 [] (by simp [go_sem]) (.inl rfl) (by simp [go_sem]) (fun _ => ?_)
  simp (disch := omega) [go_sem]

/-! The document's own answer on sites: groups. -/
def rgrpAt (s : Sit) (i : Nat) : Prop := (∀ h : i < s.groups.length, grpOk s.groups[i]) ∧ rowOk s i
def rcells (s : Sit) (a : Nat) : Prop := ∀ b, b < s.groups.length → cellOk s a b
def GroupsOk (s : Sit) : Prop := (0 ≤ s.id ∧ s.id ≤ 65535) ∧ (1 ≤ s.groups.length ∧ s.groups.length ≤ 16) ∧ s.apart.length = s.groups.length ∧ s.between.length = s.groups.length ∧
  (∀ i, i < s.groups.length → rgrpAt s i) ∧ ∀ a, a < s.groups.length → rcells s a
noncomputable instance (s : Sit) : Decidable (GroupsOk s) := Classical.propDecidable _
theorem wf_apart {s : Sit} (h : wfs (sets s.apart)) (a : Nat) (ha : a < s.apart.length) : s.apart[a] < 4294967296 := by
  have := wfs_mem (f := fun n : Nat => V.int .u32 n) h s.apart[a] (List.getElem_mem ha)
  simp [go_sem] at this
  omega

set_option maxHeartbeats 2000000 in
theorem rgroups_spec (s : Sit) : FnD Tryz.prog 150 [sitV s] (.bool (decide (GroupsOk s))) := by
  have hpu := (⟨grps_pure s.groups, phas_pure s.phases, eyes_pure s.eyes, plns_pure s.plans, sets_pure s.apart, rows_pure s.between⟩ : _ ∧ _ ∧ _ ∧ _ ∧ _ ∧ _)
  obtain ⟨hp1, hp2, hp3, hp4, hp5, hp6⟩ := hpu
  have hq := rapart_spec s
  have hsv : sitV s = .agg [.int .i64 s.id, .sl 3 (s.groups.map grpV), .sl 1 (sets s.apart), .sl 1 (rows s.between), .sl 5 (s.phases.map phaV), .sl 4 (s.eyes.map eyeV), .int .i64 s.watch, .int .i64 s.feed, .int .i64 s.heal, .int .i64 s.low, .int .i64 s.high, .sl 3 (s.plans.map plnV)] := rfl
  rw [hsv] at hq ⊢
  refine fnD_of mixed Tryz.func150 rfl rfl (by simp [Tryz.ntmps150]) fun hwf E => ?_
  simp (disch := omega) [go_sem, sets_len, rows_len] at hwf
  have hap := wf_apart hwf.2.2.1.2
  simp (disch := omega) [Tryz.ntmps150, go_sem, sets_len, rows_len]
  refine callK_bool (rin_spec s.id 0 65535) [] (by simp [go_sem]) (fun h0 => ?_) (fun h0 => ?_)
  · rw [inN_iff] at h0
    simp (disch := omega) [go_sem]
    refine callK_bool (rin_spec s.groups.length 1 16) [] (by simp [go_sem]) (fun h1 => ?_) (fun h1 => ?_)
    · rw [inN_iff] at h1
      simp (disch := omega) [go_sem, sets_len, rows_len]
      refine br_of (fun h2 => ?_) (fun h2 => ?_)
      · simp (disch := omega) [go_sem]
        intro hA
        simp [hA.2.2.1, hA.2.2.2.1] at h2
      · simp at h2
        have hla : s.apart.length = s.groups.length := by omega
        have hlb : s.between.length = s.groups.length := by omega
        simp (disch := omega) [go_sem]
        refine awz_loop mixed (fun k : Nat => ⟨[(4, .int .i64 k), (3, .int .i64 s.groups.length), (1, .ptr 0 1 0 0), (2, .bool false)], [(0, ⟨.box, 87, 12, [sitV s]⟩)], 1024, [], 155, 0, []⟩)
          (fun k => k ≤ s.groups.length ∧ ∀ i, i < k → rgrpAt s i) (fun k => s.groups.length - k) 0 ⟨by omega, fun a ha => by omega⟩ ?_ ?_
        · refine Le.mk [(0, some 0)] [0] ⟨rfl, rfl, rfl⟩ ?_ ?_ ?_ <;> simp [go_sem, sitV, hp1, hp2, hp3, hp4, hp5, hp6]
        · rintro k ⟨hk, hno⟩
          simp (disch := omega) [go_sem, sitV]
          refine br_of (fun h => ?_) (fun h => ?_) <;> simp at h
          · have hg : nth (s.groups.map grpV) k = grpV s.groups[k] := nth_map h
            have bad : ¬ rgrpAt s k → ¬ GroupsOk s := fun hb hA => hb (hA.2.2.2.2.1 k h)
            have hka : k < s.apart.length := by omega
            have hkb : k < s.between.length := by omega
            have g1 : s.between.getD k [] = s.between[k] := by simp [hkb]
            have g2 : s.apart.getD k 0 = s.apart[k] := by simp [hka]
            obtain ⟨q, hq2⟩ : ∃ q : Nat, q = 2 ^ s.groups.length := ⟨_, rfl⟩
            have hq3 : q ≤ 65536 := by rw [hq2]; exact Nat.pow_le_pow_right (j := 16) (by omega) (by omega)
            have e2 : IntKind.u32.wrap (2 ^ s.groups.length) = (q : Int) := by
              rw [show ((2 : Int) ^ s.groups.length) = ((2 ^ s.groups.length : Nat) : Int) by simp, ← hq2]
              exact u32_wrap (by omega) (by omega)
            by_cases hkd : s.groups[k].kind = 1 ∨ s.groups[k].kind = 2
            · rcases hkd with e | e
              all_goals
                simp (disch := omega) [go_sem, h, hg, grpV, sitV, e]
                refine callK_bool (rin_spec s.groups[k].min 1 1048576) [] (by simp [go_sem]) (fun h3 => ?_) (fun h3 => ?_)
                · rw [inN_iff] at h3
                  simp (disch := omega) [go_sem]
                  refine callK_bool (rin_spec s.groups[k].yellow 1 1048576) [] (by simp [go_sem]) (fun h4 => ?_) (fun h4 => ?_)
                  · rw [inN_iff] at h4
                    simp (disch := omega) [go_sem, sitV, nth_rows, rows_len, hkb, ints_len, sets_len, nth_sets, hka, e2]
                    refine br_of (fun h5 => ?_) (fun h5 => ?_)
                    · simp (disch := omega) [go_sem]
                      apply bad
                      rintro ⟨_, c1, c2⟩
                      rw [g1] at c1
                      rw [g2, ← hq2] at c2
                      simp [c1] at h5
                      omega
                    · simp (disch := omega) [go_sem]
                      refine round_of (k + 1) ⟨by omega, fun i hi => ?_⟩ (by omega) (Le.mk [(0, some 0)] [0] ⟨rfl, rfl, rfl⟩ ?_ ?_ ?_)
                      · by_cases ei : i = k
                        · subst ei
                          refine ⟨fun _ => ⟨by omega, h3, h4⟩, ?_, ?_⟩
                          · rw [g1]; simp at h5; omega
                          · rw [g2, ← hq2]
                            simp at h5; omega
                        · exact hno i (by omega)
                      all_goals simp [go_sem, sitV, hp1, hp2, hp3, hp4, hp5, hp6]
                  · simp (disch := omega) [go_sem, sitV, nth_rows, rows_len, hkb, ints_len, sets_len, nth_sets, hka, e2]
                    exact bad fun hc => by have := (hc.1 h).2.2; rw [← inN_iff, h4] at this; cases this
                · simp (disch := omega) [go_sem, sitV, nth_rows, rows_len, hkb, ints_len, sets_len, nth_sets, hka, e2]
                  exact bad fun hc => by have := (hc.1 h).2.1; rw [← inN_iff, h3] at this; cases this
            · have e1 : ¬ s.groups[k].kind = 1 := fun e => hkd (.inl e)
              have e3 : ¬ s.groups[k].kind = 2 := fun e => hkd (.inr e)
              have e1' : (s.groups[k].kind != 1) = true := by simp [e1]
              have e2' : (s.groups[k].kind != 2) = true := by simp [e3]
              simp (disch := omega) [go_sem, h, hg, grpV, sitV, e1', e2', nth_rows, rows_len, hkb, ints_len, sets_len, nth_sets, hka, e2]
              exact bad fun hh => hkd (hh.1 h).1
          · have hkl : k = s.groups.length := by omega
            subst hkl
            simp (disch := omega) [go_sem]
            refine awz_loop mixed (fun k : Nat => ⟨[(6, .int .i64 k), (3, .int .i64 s.groups.length), (1, .ptr 0 1 0 0), (2, .bool false)], [(0, ⟨.box, 87, 12, [sitV s]⟩)], 2048, [], 155, 0, []⟩)
              (fun k => k ≤ s.groups.length ∧ ∀ i, i < k → rcells s i) (fun k => s.groups.length - k) 0 ⟨by omega, fun a ha => by omega⟩ ?_ ?_
            · refine Le.mk [(0, some 0)] [0] ⟨rfl, rfl, rfl⟩ ?_ ?_ ?_ <;> simp [go_sem, sitV, hp1, hp2, hp3, hp4, hp5, hp6]
            · rintro a ⟨ha, hco⟩
              simp (disch := omega) [go_sem, sitV]
              refine br_of (fun h5 => ?_) (fun h5 => ?_) <;> simp at h5
              · simp (disch := omega) [go_sem, sitV]
                refine awz_loop mixed (fun b : Nat => ⟨[(7, .int .i64 b), (6, .int .i64 a), (3, .int .i64 s.groups.length), (1, .ptr 0 1 0 0), (2, .bool false)], [(0, ⟨.box, 87, 12, [sitV s]⟩)], 4096, [], 155, 0, []⟩)
                  (fun b => b ≤ s.groups.length ∧ ∀ i, i < b → cellOk s a i) (fun b => s.groups.length - b) 0 ⟨by omega, fun a ha => by omega⟩ ?_ ?_
                · refine Le.mk [(0, some 0)] [0] ⟨rfl, rfl, rfl⟩ ?_ ?_ ?_ <;> simp [go_sem, sitV, hp1, hp2, hp3, hp4, hp5, hp6]
                · rintro b ⟨hb, hbo⟩
                  simp (disch := omega) [go_sem, sitV]
                  refine br_of (fun h6 => ?_) (fun h6 => ?_) <;> simp at h6
                  · have q1 := hq a b (by omega) (by omega)
                    have q2 := hq b a (by omega) (by omega)
                    have q3 := hq a a (by omega) (by omega)
                    have hka : a < s.apart.length := by omega
                    have hkb : a < s.between.length := by omega
                    have hrl : s.between[a].length = s.groups.length := by
                      have := (hno a h5).2.1
                      rwa [show s.between.getD a [] = s.between[a] by simp [hkb]] at this
                    have hbr : b < s.between[a].length := by omega
                    have i3 : s.between[a][b] = betw s a b := by simp [betw, hkb, hbr]
                    have hg : nth (s.groups.map grpV) a = grpV s.groups[a] := nth_map h5
                    have hy : s.groups[a].yellow = yelAt s a := by simp [yelAt, h5]
                    have hyb := ((hno a h5).1 h5).2.2
                    rw [hy] at hyb
                    have badc : ¬ cellOk s a b → ¬ GroupsOk s := fun hb hA => hb (hA.2.2.2.2.2 a h5 b h6)
                    have good : cellOk s a b → ∀ i, i < b + 1 → cellOk s a i := fun hc i hi => by
                      by_cases ei : i = b
                      · subst ei; exact hc
                      · exact hbo i (by omega)
                    simp (disch := omega) [go_sem]
                    refine callK_bool q1 [] (by simp [go_sem, hp1, hp2, hp3, hp4, hp5, hp6]) (fun j1 => ?_) (fun j1 => ?_)
                    · simp (disch := omega) [go_sem]
                      refine callK_bool q2 [] (by simp [go_sem, hp1, hp2, hp3, hp4, hp5, hp6]) (fun j2 => ?_) (fun j2 => ?_)
                      · by_cases eab : a = b
                        · subst eab
                          simp (disch := omega) [go_sem]
                          refine callK_bool q3 [] (by simp [go_sem, hp1, hp2, hp3, hp4, hp5, hp6]) (fun j3 => ?_) (fun j3 => ?_)
                          · simp (disch := omega) [go_sem]
                            refine ⟨.inl (by kernel_rfl), badc fun hc => (hc.2.1 j1).1 rfl⟩
                          · rw [j1] at j3; cases j3
                        · have enb : ((a : Int) == (b : Int)) = false := by simpa using fun e => eab (by omega)
                          simp (disch := omega) [go_sem, enb]
                          refine ⟨.inl (by kernel_rfl), ?_⟩
                          refine callK_bool q1 [] (by simp [go_sem, hp1, hp2, hp3, hp4, hp5, hp6]) (fun j3 => ?_) (fun j3 => ?_)
                          · simp (disch := omega) [go_sem, sitV, nth_rows, rows_len, hkb, nth_ints, ints_len, hbr, i3, hg, grpV, hy, h5]
                            refine callK_bool (rin_spec (betw s a b) (yelAt s a) 1048576) [] (by simp [go_sem]) (fun j4 => ?_) (fun j4 => ?_)
                            · simp (disch := omega) [go_sem, sitV, nth_rows, rows_len, hkb, nth_ints, ints_len, hbr, i3, hg, grpV, hy, h5]
                              refine callK_bool q1 [] (by simp [go_sem, hp1, hp2, hp3, hp4, hp5, hp6]) (fun j6 => ?_) (fun j6 => ?_)
                              · simp (disch := omega) [go_sem, sitV, nth_rows, rows_len, hkb, nth_ints, ints_len, hbr, i3, hg, grpV, hy, h5]
                                refine ⟨.inl (by kernel_rfl), ?_⟩
                                have j5 := inN_iff.1 j4
                                refine round_of (b + 1) ⟨by omega, good ⟨by rw [j1, j2], fun _ => ⟨by omega, j5⟩, fun j6 => by rw [j1] at j6; cases j6⟩⟩ (by omega) (Le.mk [(0, some 0)] [0] ⟨rfl, rfl, rfl⟩ ?_ ?_ ?_) <;> simp [go_sem, sitV, hp1, hp2, hp3, hp4, hp5, hp6]
                              · rw [j1] at j6; cases j6
                            · simp (disch := omega) [go_sem, sitV, nth_rows, rows_len, hkb, nth_ints, ints_len, hbr, i3, hg, grpV, hy, h5]
                              refine ⟨.inl (by kernel_rfl), badc fun hc => ?_⟩
                              have := (hc.2.1 j1).2
                              rw [← inN_iff, j4] at this; cases this
                          · rw [j1] at j3; cases j3
                      · simp (disch := omega) [go_sem]
                        refine ⟨.inl (by kernel_rfl), badc fun hc => ?_⟩
                        have := hc.1
                        rw [j1, j2] at this; cases this
                    · simp (disch := omega) [go_sem]
                      refine callK_bool q2 [] (by simp [go_sem, hp1, hp2, hp3, hp4, hp5, hp6]) (fun j2 => ?_) (fun j2 => ?_)
                      · simp (disch := omega) [go_sem]
                        refine ⟨.inl (by kernel_rfl), badc fun hc => ?_⟩
                        have := hc.1
                        rw [j1, j2] at this; cases this
                      · simp (disch := omega) [go_sem]
                        by_cases eab : a = b
                        · subst eab
                          simp (disch := omega) [go_sem]
                          refine callK_bool q3 [] (by simp [go_sem, hp1, hp2, hp3, hp4, hp5, hp6]) (fun j3 => ?_) (fun j3 => ?_)
                          · rw [j1] at j3; cases j3
                          simp (disch := omega) [go_sem]
                          refine ⟨.inl (by kernel_rfl), ?_⟩
                          refine callK_bool q1 [] (by simp [go_sem, hp1, hp2, hp3, hp4, hp5, hp6]) (fun j4 => ?_) (fun j4 => ?_)
                          · rw [j1] at j4; cases j4
                          · simp (disch := omega) [go_sem, sitV, nth_rows, rows_len, hkb, nth_ints, ints_len, hbr, i3, hg, grpV, hy, h5]
                            refine callK_bool q1 [] (by simp [go_sem, hp1, hp2, hp3, hp4, hp5, hp6]) (fun j5 => ?_) (fun j5 => ?_)
                            · rw [j1] at j5; cases j5
                            · simp (disch := omega) [go_sem, sitV, nth_rows, rows_len, hkb, nth_ints, ints_len, hbr, i3, hg, grpV, hy, h5]
                              refine ⟨.inl (by kernel_rfl), ?_⟩
                              refine br_of (fun j6 => ?_) (fun j6 => ?_) <;> simp at j6
                              · simp (disch := omega) [go_sem]
                                exact badc fun hc => j6 (hc.2.2 j1)
                              · simp (disch := omega) [go_sem]
                                refine round_of (a + 1) ⟨by omega, good ⟨rfl, fun j7 => (by rw [j1] at j7; cases j7), fun _ => j6⟩⟩ (by omega) (Le.mk [(0, some 0)] [0] ⟨rfl, rfl, rfl⟩ ?_ ?_ ?_) <;> simp [go_sem, sitV, hp1, hp2, hp3, hp4, hp5, hp6]
                        · have enb : ((a : Int) == (b : Int)) = false := by simpa using fun e => eab (by omega)
                          simp (disch := omega) [go_sem, enb]
                          refine ⟨.inl (by kernel_rfl), ?_⟩
                          refine callK_bool q1 [] (by simp [go_sem, hp1, hp2, hp3, hp4, hp5, hp6]) (fun j4 => ?_) (fun j4 => ?_)
                          · rw [j1] at j4; cases j4
                          · simp (disch := omega) [go_sem, sitV, nth_rows, rows_len, hkb, nth_ints, ints_len, hbr, i3, hg, grpV, hy, h5]
                            refine callK_bool q1 [] (by simp [go_sem, hp1, hp2, hp3, hp4, hp5, hp6]) (fun j5 => ?_) (fun j5 => ?_)
                            · rw [j1] at j5; cases j5
                            · simp (disch := omega) [go_sem, sitV, nth_rows, rows_len, hkb, nth_ints, ints_len, hbr, i3, hg, grpV, hy, h5]
                              refine ⟨.inl (by kernel_rfl), ?_⟩
                              refine br_of (fun j6 => ?_) (fun j6 => ?_) <;> simp at j6
                              · simp (disch := omega) [go_sem]
                                exact badc fun hc => j6 (hc.2.2 j1)
                              · simp (disch := omega) [go_sem]
                                refine round_of (b + 1) ⟨by omega, good ⟨by rw [j1, j2], fun j7 => (by rw [j1] at j7; cases j7), fun _ => j6⟩⟩ (by omega) (Le.mk [(0, some 0)] [0] ⟨rfl, rfl, rfl⟩ ?_ ?_ ?_) <;> simp [go_sem, sitV, hp1, hp2, hp3, hp4, hp5, hp6]
                  · simp (disch := omega) [go_sem]
                    refine round_of (a + 1) ⟨by omega, fun i hi => ?_⟩ (by omega) (Le.mk [(0, some 0)] [0] ⟨rfl, rfl, rfl⟩ ?_ ?_ ?_)
                    · by_cases ei : i = a
                      · subst ei; exact fun c hc => hbo c (by omega)
                      · exact hco i (by omega)
                    all_goals simp [go_sem, sitV, hp1, hp2, hp3, hp4, hp5, hp6]
              · simp (disch := omega) [go_sem]
                exact ⟨h0, by omega, hla, hlb, fun i hi => hno i hi, fun i hi => hco i (by omega)⟩
    · simp (disch := omega) [go_sem]
      intro hA
      rw [inN_iff.2 (by have := hA.2.1; omega)] at h1; cases h1
  · simp (disch := omega) [go_sem]
    intro hA
    rw [inN_iff.2 hA.1] at h0; cases h0

/-! The document's own answer on sites: what lies between phases. -/
def rowK (s : Sit) (A B a k : Nat) (m : Int) : Int := (List.range k).foldl (fun m b => if (A.testBit a && (B.testBit b && isAp s a b)) = true then maxI m (betw s a b) else m) m
theorem rowK_succ (s : Sit) (A B a k : Nat) (m : Int) : rowK s A B a (k + 1) m = if (A.testBit a && (B.testBit k && isAp s a k)) = true then maxI (rowK s A B a k m) (betw s a k) else rowK s A B a k m := by
  unfold rowK
  rw [List.range_succ, List.foldl_append]; rfl
theorem fold_skip {α : Type} (f : Int → α → Int) : ∀ (l : List α) (m : Int), (∀ b ∈ l, ∀ m, f m b = m) → l.foldl f m = m
  | [], m, _ => rfl
  | b :: l, m, h => by
    rw [List.foldl_cons, h b (by simp)]
    exact fold_skip f l m fun c hc => h c (by simp [hc])
theorem rowK_clear (s : Sit) (A B a n : Nat) (m : Int) (hn : n ≤ 32) (hap : ∀ b, n ≤ b → isAp s a b = false) : rowK s A B a n m = clearRow s A B a m := by
  unfold clearRow
  split
  · rename_i hA
    unfold most bitsOf
    rw [List.foldl_filter, show (32 : Nat) = n + (32 - n) by omega, List.range_add, List.foldl_append]
    have hb : ∀ b, ((s.apart.getD a 0) &&& B).testBit b = (B.testBit b && isAp s a b) := fun b => by
      rw [Nat.testBit_and, Bool.and_comm]; rfl
    have e : rowK s A B a n m = (List.range n).foldl (fun x y => if ((s.apart.getD a 0) &&& B).testBit y = true then maxI x ((s.between.getD a []).getD y 0) else x) m := by
      unfold rowK
      congr 1
      funext x y
      rw [hb, hA]; rfl
    rw [e]
    refine (fold_skip _ _ _ fun b hbm x => ?_).symm
    obtain ⟨c, _, rfl⟩ := List.mem_map.1 hbm
    have h1 := hap (n + c) (by omega)
    rw [if_neg]
    rw [hb, h1]; simp
  · rename_i hA
    refine fold_skip _ _ _ fun b _ x => ?_
    rw [if_neg]
    simp only [Bool.not_eq_true] at hA
    rw [hA]; simp
theorem GroupsOk.high {s : Sit} (h : GroupsOk s) (a : Nat) (ha : a < s.groups.length) (b : Nat) (hb : s.groups.length ≤ b) : isAp s a b = false := by
  have hr := (h.2.2.2.2.1 a ha).2.2
  exact Nat.testBit_lt_two_pow (Nat.lt_of_lt_of_le hr (Nat.pow_le_pow_right (by omega) hb))
theorem wf_set {s : Sit} (h : wfs (s.phases.map phaV)) (i : Nat) : setAt s i < 4294967296 := by
  unfold setAt
  by_cases hi : i < s.phases.length
  · simp only [List.getElem?_eq_getElem hi, Option.map_some, Option.getD_some]
    exact wf_phas h _ (List.getElem_mem hi)
  · simp [List.getElem?_eq_none (Nat.le_of_not_lt hi)]

set_option maxHeartbeats 2000000 in
theorem rclear_spec (s : Sit) (i j : Nat) (hG : GroupsOk s) (hi : i < s.phases.length) (hj : j < s.phases.length) : FnD Tryz.prog 217 [sitV s, .int .i64 i, .int .i64 j] (.int .i64 (clearN s i j)) := by
  have hpu := (⟨grps_pure s.groups, phas_pure s.phases, eyes_pure s.eyes, plns_pure s.plans, sets_pure s.apart, rows_pure s.between⟩ : _ ∧ _ ∧ _ ∧ _ ∧ _ ∧ _)
  obtain ⟨hp1, hp2, hp3, hp4, hp5, hp6⟩ := hpu
  obtain ⟨hG1, hG2, hla, hlb, hG5, hG6⟩ := id hG
  have hq := rapart_spec s
  have hsv : sitV s = .agg [.int .i64 s.id, .sl 3 (s.groups.map grpV), .sl 1 (sets s.apart), .sl 1 (rows s.between), .sl 5 (s.phases.map phaV), .sl 4 (s.eyes.map eyeV), .int .i64 s.watch, .int .i64 s.feed, .int .i64 s.heal, .int .i64 s.low, .int .i64 s.high, .sl 3 (s.plans.map plnV)] := rfl
  rw [hsv] at hq ⊢
  refine fnD_of mixed Tryz.func217 rfl rfl (by simp [Tryz.ntmps217]) fun hwf E => ?_
  simp (disch := omega) [go_sem, sets_len, rows_len] at hwf
  have hA32 := wf_set hwf.1.2.2.2.2.1.2 i
  have hB32 := wf_set hwf.1.2.2.2.2.1.2 j
  have hi2 : nth (s.phases.map phaV) i = phaV s.phases[i] := nth_map hi
  have hj2 : nth (s.phases.map phaV) j = phaV s.phases[j] := nth_map hj
  have eA : s.phases[i].set = setAt s i := by simp [setAt, hi]
  have eB : s.phases[j].set = setAt s j := by simp [setAt, hj]
  simp (disch := omega) [Tryz.ntmps217, go_sem]
  unfold clearN
  refine awz_loop mixed (fun k : Nat => ⟨[(8, .int .i64 k), (7, .int .i64 (clearK s (setAt s i) (setAt s j) k)), (3, .ptr 0 1 0 0), (1, .int .i64 i), (2, .int .i64 j), (6, .int .i64 0)], [(0, ⟨.box, 87, 12, [sitV s]⟩)], 1024, [], 59, 0, []⟩)
    (fun k => k ≤ s.groups.length) (fun k => s.groups.length - k) 0 (by omega) ?_ ?_
  · refine Le.mk [(0, some 0)] [0] ⟨rfl, rfl, rfl⟩ ?_ ?_ ?_ <;> simp [go_sem, sitV, hp1, hp2, hp3, hp4, hp5, hp6, clearK]
  · intro a ha
    simp (disch := omega) [go_sem, sitV]
    refine br_of (fun h => ?_) (fun h => ?_) <;> simp at h
    · simp (disch := omega) [go_sem]
      have hsucc : clearK s (setAt s i) (setAt s j) (a + 1) = rowK s (setAt s i) (setAt s j) a s.groups.length (clearK s (setAt s i) (setAt s j) a) := by
        rw [clearK_succ, rowK_clear s _ _ a s.groups.length _ (by omega) (fun b hb => hG.high a h b hb)]
      generalize clearK s (setAt s i) (setAt s j) a = M0 at *
      refine awz_loop mixed (fun b : Nat => ⟨[(9, .int .i64 b), (8, .int .i64 a), (7, .int .i64 (rowK s (setAt s i) (setAt s j) a b M0)), (3, .ptr 0 1 0 0), (1, .int .i64 i), (2, .int .i64 j), (6, .int .i64 0)], [(0, ⟨.box, 87, 12, [sitV s]⟩)], 4096, [], 59, 0, []⟩)
        (fun b => b ≤ s.groups.length) (fun b => s.groups.length - b) 0 (by omega) ?_ ?_
      · refine Le.mk [(0, some 0)] [0] ⟨rfl, rfl, rfl⟩ ?_ ?_ ?_ <;> simp [go_sem, sitV, hp1, hp2, hp3, hp4, hp5, hp6, rowK]
      · intro b hb
        simp (disch := omega) [go_sem, sitV]
        refine br_of (fun h2 => ?_) (fun h2 => ?_) <;> simp at h2
        · have hs2 := rowK_succ s (setAt s i) (setAt s j) a b M0
          have qa := rhas_spec (setAt s i) a (by omega) hA32
          have qb := rhas_spec (setAt s j) b (by omega) hB32
          have qc := hq a b (by omega) (by omega)
          have hkb : a < s.between.length := by omega
          have hrl : s.between[a].length = s.groups.length := by
            have := (hG5 a h).2.1
            rwa [show s.between.getD a [] = s.between[a] by simp [hkb]] at this
          have hbr : b < s.between[a].length := by omega
          have i3 : s.between[a][b] = betw s a b := by simp [betw, hkb, hbr]
          simp (disch := omega) [go_sem, hi, hi2, phaV, eA]
          refine callK_bool qa [] (by simp [go_sem]) (fun j1 => ?_) (fun j1 => ?_)
          · simp (disch := omega) [go_sem, hj, hj2, phaV, eB]
            refine callK_bool qb [] (by simp [go_sem]) (fun j2 => ?_) (fun j2 => ?_)
            · simp (disch := omega) [go_sem]
              refine callK_bool qc [] (by simp [go_sem, hp1, hp2, hp3, hp4, hp5, hp6]) (fun j3 => ?_) (fun j3 => ?_)
              · simp (disch := omega) [go_sem, nth_rows, rows_len, hkb, nth_ints, ints_len, hbr, i3]
                refine round_of (b + 1) (by omega) (by omega) (Le.mk [(0, some 0)] [0] ⟨rfl, rfl, rfl⟩ ?_ ?_ ?_) <;> simp [go_sem, sitV, hp1, hp2, hp3, hp4, hp5, hp6, hs2, j1, j2, j3, maxI]
              · simp (disch := omega) [go_sem]
                refine round_of (b + 1) (by omega) (by omega) (Le.mk [(0, some 0)] [0] ⟨rfl, rfl, rfl⟩ ?_ ?_ ?_) <;> simp [go_sem, sitV, hp1, hp2, hp3, hp4, hp5, hp6, hs2, j1, j2, j3]
            · simp (disch := omega) [go_sem]
              refine round_of (b + 1) (by omega) (by omega) (Le.mk [(0, some 0)] [0] ⟨rfl, rfl, rfl⟩ ?_ ?_ ?_) <;> simp [go_sem, sitV, hp1, hp2, hp3, hp4, hp5, hp6, hs2, j1, j2]
          · simp (disch := omega) [go_sem, hj, hj2, phaV, eB]
            refine round_of (b + 1) (by omega) (by omega) (Le.mk [(0, some 0)] [0] ⟨rfl, rfl, rfl⟩ ?_ ?_ ?_) <;> simp [go_sem, sitV, hp1, hp2, hp3, hp4, hp5, hp6, hs2, j1]
        · have hbl : b = s.groups.length := by omega
          subst hbl
          simp (disch := omega) [go_sem]
          refine round_of (a + 1) (by omega) (by omega) (Le.mk [(0, some 0)] [0] ⟨rfl, rfl, rfl⟩ ?_ ?_ ?_) <;> simp [go_sem, sitV, hp1, hp2, hp3, hp4, hp5, hp6, hsucc]
    · have hal : a = s.groups.length := by omega
      subst hal
      simp (disch := omega) [go_sem]

theorem rneeds_spec (s : Sit) (i : Nat) (hG : GroupsOk s) (hi : i < s.phases.length) (hw : 0 ≤ needsN s i ∧ needsN s i ≤ 4294967296) : FnD Tryz.prog 199 [sitV s, .int .i64 i] (.int .i64 (needsN s i)) := by
  have hpu := (⟨grps_pure s.groups, phas_pure s.phases, eyes_pure s.eyes, plns_pure s.plans, sets_pure s.apart, rows_pure s.between⟩ : _ ∧ _ ∧ _ ∧ _ ∧ _ ∧ _)
  obtain ⟨hp1, hp2, hp3, hp4, hp5, hp6⟩ := hpu
  have hm : (i + 1) % s.phases.length < s.phases.length := Nat.mod_lt _ (by omega)
  have hc := rclear_spec s i ((i + 1) % s.phases.length) hG hi hm
  have hsv : sitV s = .agg [.int .i64 s.id, .sl 3 (s.groups.map grpV), .sl 1 (sets s.apart), .sl 1 (rows s.between), .sl 5 (s.phases.map phaV), .sl 4 (s.eyes.map eyeV), .int .i64 s.watch, .int .i64 s.feed, .int .i64 s.heal, .int .i64 s.low, .int .i64 s.high, .sl 3 (s.plans.map plnV)] := rfl
  rw [hsv] at hc ⊢
  have hi2 : nth (s.phases.map phaV) i = phaV s.phases[i] := nth_map hi
  have eM : s.phases[i].min = minAt s i := by simp [minAt, hi]
  have hN : needsN s i = minAt s i + clearN s i ((i + 1) % s.phases.length) := rfl
  refine fnD_of mixed Tryz.func199 rfl rfl (by simp [Tryz.ntmps199]) fun hwf E => ?_
  simp (disch := omega) [go_sem, sets_len, rows_len] at hwf
  have et : ((i : Int) + 1).tmod (s.phases.length : Int) = ((((i + 1) % s.phases.length : Nat)) : Int) := by
    rw [show (i : Int) + 1 = ((i + 1 : Nat) : Int) by omega]; rfl
  simp (disch := omega) [Tryz.ntmps199, go_sem, hi, hi2, phaV, eM, et]
  refine ⟨fun e => by simp [e] at hi, ?_⟩
  refine callK_data hc [] (by simp [go_sem, hp1, hp2, hp3, hp4, hp5, hp6]) (.inl rfl) (by simp [go_sem]) (fun _ => ?_)
  rw [hN] at hw ⊢
  simp (disch := omega) [go_sem]
  exact .inl (by kernel_rfl)

theorem rround_spec (s : Sit) (hG : GroupsOk s) (hN : NeedsOk s) (hl : s.phases.length ≤ 8) : FnD Tryz.prog 153 [sitV s] (.int .i64 (roundK s s.phases.length)) := by
  have hpu := (⟨grps_pure s.groups, phas_pure s.phases, eyes_pure s.eyes, plns_pure s.plans, sets_pure s.apart, rows_pure s.between⟩ : _ ∧ _ ∧ _ ∧ _ ∧ _ ∧ _)
  obtain ⟨hp1, hp2, hp3, hp4, hp5, hp6⟩ := hpu
  have hc := fun i hi => rneeds_spec s i hG hi (hN i hi)
  have hsv : sitV s = .agg [.int .i64 s.id, .sl 3 (s.groups.map grpV), .sl 1 (sets s.apart), .sl 1 (rows s.between), .sl 5 (s.phases.map phaV), .sl 4 (s.eyes.map eyeV), .int .i64 s.watch, .int .i64 s.feed, .int .i64 s.heal, .int .i64 s.low, .int .i64 s.high, .sl 3 (s.plans.map plnV)] := rfl
  rw [hsv] at hc ⊢
  refine fnD_of mixed Tryz.func153 rfl rfl (by simp [Tryz.ntmps153]) fun hwf E => ?_
  simp (disch := omega) [go_sem, sets_len, rows_len] at hwf
  simp (disch := omega) [Tryz.ntmps153, go_sem]
  refine awz_loop mixed (fun k : Nat => ⟨[(4, .int .i64 k), (3, .int .i64 (roundK s k)), (1, .ptr 0 1 0 0), (2, .int .i64 0)], [(0, ⟨.box, 87, 12, [sitV s]⟩)], 1024, [], 18, 0, []⟩)
    (fun k => k ≤ s.phases.length) (fun k => s.phases.length - k) 0 (by omega) ?_ ?_
  · refine Le.mk [(0, some 0)] [0] ⟨rfl, rfl, rfl⟩ ?_ ?_ ?_ <;> simp [go_sem, sitV, hp1, hp2, hp3, hp4, hp5, hp6, roundK]
  · intro k hk
    have hb := roundK_bound s hN k hk
    simp (disch := omega) [go_sem, sitV]
    refine br_of (fun h => ?_) (fun h => ?_) <;> simp at h
    · have hb2 := roundK_bound s hN (k + 1) (by omega)
      have hs := roundK_succ s k
      simp (disch := omega) [go_sem]
      refine callK_data (hc k h) [] (by simp [go_sem, hp1, hp2, hp3, hp4, hp5, hp6]) (.inl rfl) (by simp [go_sem]) (fun _ => ?_)
      rw [hs] at hb2
      simp (disch := omega) [go_sem]
      refine round_of (k + 1) (by omega) (by omega) (Le.mk [(0, some 0)] [0] ⟨rfl, rfl, rfl⟩ ?_ ?_ ?_) <;> simp [go_sem, sitV, hp1, hp2, hp3, hp4, hp5, hp6, hs]
    · have hkl : k = s.phases.length := by omega
      subst hkl
      simp (disch := omega) [go_sem]

/-! The document's own answer on sites: phases. -/
/-- The least that a phase's Min may be. -/
def leastK (s : Sit) (A k : Nat) : Int := (List.range k).foldl (fun m a => if A.testBit a = true then maxI m (minGrp s a) else m) 1
theorem leastK_succ (s : Sit) (A k : Nat) : leastK s A (k + 1) = if A.testBit k = true then maxI (leastK s A k) (minGrp s k) else leastK s A k := by
  unfold leastK; rw [List.range_succ, List.foldl_append]; rfl
def allR (A k all : Nat) : Nat := (List.range k).foldl (fun t a => if A.testBit a = true then t ||| 2 ^ a else t) all
theorem allR_succ (A k all : Nat) : allR A (k + 1) all = if A.testBit k = true then allR A k all ||| 2 ^ k else allR A k all := by
  unfold allR; rw [List.range_succ, List.foldl_append]; rfl
theorem allR_bit (A all : Nat) (j : Nat) : ∀ k, (allR A k all).testBit j = (all.testBit j || (decide (j < k) && A.testBit j))
  | 0 => by simp [allR]
  | k + 1 => by
    rw [allR_succ]
    have ih := allR_bit A all j k
    split
    · rename_i h
      rw [Nat.testBit_or, ih, Nat.testBit_two_pow]
      by_cases e : k = j
      · subst e; simp [h]
      · have : (j < k + 1) ↔ (j < k) := by omega
        simp [e, this]
    · rename_i h
      rw [ih]
      by_cases e : k = j
      · subst e; simp [h]
      · have : (j < k + 1) ↔ (j < k) := by omega
        simp [this]
theorem allR_or (A n all : Nat) (hA : A < 2 ^ n) : allR A n all = all ||| A := by
  apply Nat.eq_of_testBit_eq
  intro j
  rw [allR_bit, Nat.testBit_or]
  by_cases h : j < n
  · simp [h]
  · have : A.testBit j = false := Nat.testBit_lt_two_pow (Nat.lt_of_lt_of_le hA (Nat.pow_le_pow_right (by omega) (by omega)))
    simp [this]
theorem allR_lt {A all : Nat} (hall : all < 4294967296) : ∀ k, k ≤ 32 → allR A k all < 4294967296
  | 0, _ => hall
  | k + 1, hk => by
    rw [allR_succ]
    have ih := allR_lt (A := A) hall k (by omega)
    have hp : 2 ^ k < 4294967296 := Nat.lt_of_lt_of_le (Nat.pow_lt_pow_right (by omega) (show k < 32 by omega)) (by decide)
    split
    · exact or_lt ih hp
    · exact ih
def noMeet (s : Sit) (A a : Nat) : Prop := A.testBit a = true → ∀ b, b < s.groups.length → A.testBit b = true → isAp s a b = false
/-- May a phase be, as the document says it? -/
def rphaOk (s : Sit) (p : Pha) : Prop := p.set ≠ 0 ∧ p.set < 2 ^ s.groups.length ∧ (∀ a, a < s.groups.length → noMeet s p.set a) ∧
  (leastK s p.set s.groups.length ≤ p.min ∧ p.min ≤ 1048576) ∧ (p.min ≤ p.max ∧ p.max ≤ 1048576) ∧ 1 ≤ p.gap ∧ p.gap ≤ 1048576
def rphaAt (s : Sit) (k : Nat) : Prop := ∀ h : k < s.phases.length, rphaOk s s.phases[k]
def RPhasesOk (s : Sit) : Prop := (1 ≤ s.phases.length ∧ s.phases.length ≤ 8) ∧ (∀ k, k < s.phases.length → rphaAt s k) ∧ popN (allK s s.phases.length) = s.groups.length
noncomputable instance (s : Sit) : Decidable (RPhasesOk s) := Classical.propDecidable _
theorem leastK_le {s : Sit} {A : Nat} {m : Int} : ∀ k, leastK s A k ≤ m ↔ 1 ≤ m ∧ ∀ a, a < k → A.testBit a = true → minGrp s a ≤ m
  | 0 => by simp [leastK]
  | k + 1 => by
    rw [leastK_succ]
    have ih := leastK_le (s := s) (A := A) (m := m) k
    split
    · rename_i h
      have : maxI (leastK s A k) (minGrp s k) ≤ m ↔ leastK s A k ≤ m ∧ minGrp s k ≤ m := by unfold maxI; split <;> omega
      rw [this, ih]
      constructor
      · rintro ⟨⟨h1, h2⟩, h3⟩
        refine ⟨h1, fun a ha hA => ?_⟩
        by_cases e : a = k
        · subst e; exact h3
        · exact h2 a (by omega) hA
      · rintro ⟨h1, h2⟩
        exact ⟨⟨h1, fun a ha hA => h2 a (by omega) hA⟩, h2 k (by omega) h⟩
    · rename_i h
      rw [ih]
      constructor
      · rintro ⟨h1, h2⟩
        refine ⟨h1, fun a ha hA => ?_⟩
        by_cases e : a = k
        · subst e; exact absurd hA h
        · exact h2 a (by omega) hA
      · rintro ⟨h1, h2⟩
        exact ⟨h1, fun a ha hA => h2 a (by omega) hA⟩
/-- The document's conditions on a phase are the program's. -/
theorem rpha_iff {s : Sit} (hG : GroupsOk s) (p : Pha) : rphaOk s p ↔ phaOk s p := by
  obtain ⟨hG1, hG2, hla, hlb, hG5, hG6⟩ := id hG
  unfold rphaOk phaOk
  rw [leastK_le]
  have hin : p.set < 2 ^ s.groups.length → ∀ a, p.set.testBit a = true → a < s.groups.length := fun h a ha => by
    apply Classical.byContradiction
    intro hn
    have : p.set.testBit a = false := Nat.testBit_lt_two_pow (Nat.lt_of_lt_of_le h (Nat.pow_le_pow_right (by omega) (by omega)))
    rw [this] at ha; cases ha
  have hand : ∀ a, a < s.groups.length → ((s.apart.getD a 0 &&& p.set = 0) ↔ ∀ b, b < s.groups.length → p.set.testBit b = true → isAp s a b = false) := fun a ha => by
    constructor
    · intro h b _ hb
      have := congrArg (fun t => t.testBit b) h
      simp only [Nat.testBit_and, Nat.zero_testBit, hb, Bool.and_true] at this
      exact this
    · intro h
      apply Nat.eq_of_testBit_eq
      intro b
      rw [Nat.testBit_and, Nat.zero_testBit]
      cases hb : p.set.testBit b with
      | false => simp
      | true =>
        by_cases hbn : b < s.groups.length
        · have := h b hbn hb
          have e : (s.apart.getD a 0).testBit b = false := this
          rw [e]; rfl
        · have := hG.high a ha b (by omega)
          have e : (s.apart.getD a 0).testBit b = false := this
          rw [e]; rfl
  constructor
  · rintro ⟨h1, h2, h3, ⟨⟨h4, h5⟩, h6⟩, ⟨h7, h8⟩, h9, h10⟩
    refine ⟨h1, h2, ⟨⟨h4, h6⟩, ⟨by omega, h8⟩, h9, h10⟩, h7, fun a ha => ?_⟩
    have han := hin h2 a ha
    exact ⟨h5 a han ha, (hand a han).2 fun b hb hbb => h3 a han ha b hb hbb⟩
  · rintro ⟨h1, h2, ⟨⟨h4, h6⟩, ⟨h8, h8'⟩, h9, h10⟩, h7, h11⟩
    refine ⟨h1, h2, fun a ha hA b hb hB => (hand a ha).1 (h11 a hA).2 b hb hB, ⟨⟨h4, fun a ha hA => (h11 a hA).1⟩, h6⟩, ⟨h7, h8'⟩, h9, h10⟩
theorem allK_lt {s : Sit} (h : wfs (s.phases.map phaV)) : ∀ k, k ≤ s.phases.length → allK s k < 4294967296
  | 0, _ => by simp [allK]
  | k + 1, hk => by
    rw [allK_succ s k (by omega)]
    exact or_lt (allK_lt h k (by omega)) (wf_phas h _ (List.getElem_mem (by omega)))

set_option maxHeartbeats 4000000 in
theorem rphases_spec (s : Sit) (hG : GroupsOk s) : FnD Tryz.prog 151 [sitV s] (.bool (decide (RPhasesOk s))) := by
  have hpu := (⟨grps_pure s.groups, phas_pure s.phases, eyes_pure s.eyes, plns_pure s.plans, sets_pure s.apart, rows_pure s.between⟩ : _ ∧ _ ∧ _ ∧ _ ∧ _ ∧ _)
  obtain ⟨hp1, hp2, hp3, hp4, hp5, hp6⟩ := hpu
  obtain ⟨hG1, hG2, hla, hlb, hG5, hG6⟩ := id hG
  have hq := rapart_spec s
  have hsv : sitV s = .agg [.int .i64 s.id, .sl 3 (s.groups.map grpV), .sl 1 (sets s.apart), .sl 1 (rows s.between), .sl 5 (s.phases.map phaV), .sl 4 (s.eyes.map eyeV), .int .i64 s.watch, .int .i64 s.feed, .int .i64 s.heal, .int .i64 s.low, .int .i64 s.high, .sl 3 (s.plans.map plnV)] := rfl
  rw [hsv] at hq ⊢
  refine fnD_of mixed Tryz.func151 rfl rfl (by simp [Tryz.ntmps151]) fun hwf E => ?_
  simp (disch := omega) [go_sem, sets_len, rows_len] at hwf
  have hwp := hwf.2.2.2.2.1.2
  simp (disch := omega) [Tryz.ntmps151, go_sem]
  refine callK_bool (rin_spec s.phases.length 1 8) [] (by simp [go_sem]) (fun h1 => ?_) (fun h1 => ?_)
  · rw [inN_iff] at h1
    simp (disch := omega) [go_sem]
    refine awz_loop mixed (fun k : Nat => ⟨[(4, .int .i64 k), (3, .int .u32 (allK s k)), (1, .ptr 0 1 0 0), (2, .bool false)], [(0, ⟨.box, 87, 12, [sitV s]⟩)], 1024, [], 104, 0, []⟩)
      (fun k => k ≤ s.phases.length ∧ ∀ i, i < k → rphaAt s i) (fun k => s.phases.length - k) 0 ⟨by omega, fun a ha => by omega⟩ ?_ ?_
    · refine Le.mk [(0, some 0)] [0] ⟨rfl, rfl, rfl⟩ ?_ ?_ ?_ <;> simp [go_sem, sitV, hp1, hp2, hp3, hp4, hp5, hp6, allK]
    · rintro k ⟨hk, hno⟩
      simp (disch := omega) [go_sem, sitV]
      refine br_of (fun h => ?_) (fun h => ?_) <;> simp at h
      · have hpv : nth (s.phases.map phaV) k = phaV s.phases[k] := nth_map h
        have bad : ¬ rphaOk s s.phases[k] → ¬ RPhasesOk s := fun hb hA => hb (hA.2.1 k h h)
        have hset := wf_phas hwp _ (List.getElem_mem h)
        have hall := allK_lt hwp k hk
        have hsucc := allK_succ s k h
        have hat : rphaAt s k ↔ rphaOk s s.phases[k] := ⟨fun hh => hh h, fun hh _ => hh⟩
        obtain ⟨q, hq2⟩ : ∃ q : Nat, q = 2 ^ s.groups.length := ⟨_, rfl⟩
        have hq3 : q ≤ 65536 := by rw [hq2]; exact Nat.pow_le_pow_right (j := 16) (by omega) (by omega)
        have e2 : IntKind.u32.wrap (2 ^ s.groups.length) = (q : Int) := by
          rw [show ((2 : Int) ^ s.groups.length) = ((2 ^ s.groups.length : Nat) : Int) by simp, ← hq2]
          exact u32_wrap (by omega) (by omega)
        generalize s.phases[k] = p at *
        simp (disch := omega) [go_sem, h, hpv, phaV, sitV, e2]
        refine br_of (fun h2 => ?_) (fun h2 => ?_)
        · simp (disch := omega) [go_sem]
          apply bad
          rintro ⟨c1, c2, _⟩
          rw [← hq2] at c2
          simp at h2
          omega
        · have hne : p.set ≠ 0 := fun e => by simp [e] at h2
          have hlt : p.set < 2 ^ s.groups.length := by rw [← hq2]; simp at h2; omega
          have hor := allR_or p.set s.groups.length (allK s k) hlt
          simp (disch := omega) [go_sem]
          refine awz_loop mixed (fun a : Nat => ⟨[(7, .int .i64 a), (6, .int .i64 (leastK s p.set a)), (5, .ptr 512 1 0 0), (4, .int .i64 k), (3, .int .u32 (allR p.set a (allK s k))), (1, .ptr 0 1 0 0), (2, .bool false)], [(512, ⟨.box, 151, 5, [phaV p]⟩), (0, ⟨.box, 87, 12, [sitV s]⟩)], 2048, [], 104, 0, []⟩)
            (fun a => a ≤ s.groups.length ∧ ∀ i, i < a → noMeet s p.set i) (fun a => s.groups.length - a) 0 ⟨by omega, fun a ha => by omega⟩ ?_ ?_
          · refine Le.mk [(0, some 0), (512, some 1184)] [0, 1184] ⟨rfl, rfl, rfl⟩ ?_ ?_ ?_ <;> simp [go_sem, sitV, phaV, hp1, hp2, hp3, hp4, hp5, hp6, allR, leastK]
          · rintro a ⟨ha, hmo⟩
            simp (disch := omega) [go_sem, sitV, phaV]
            refine br_of (fun h3 => ?_) (fun h3 => ?_) <;> simp at h3
            · have qa := rhas_spec p.set a (by omega) hset
              have qw := rwith_spec (allR p.set a (allK s k)) a (by omega) (allR_lt hall a (by omega))
              have hl2 := leastK_succ s p.set a
              have ho2 := allR_succ p.set a (allK s k)
              have hg : nth (s.groups.map grpV) a = grpV s.groups[a] := nth_map h3
              have em : s.groups[a].min = minGrp s a := by simp [minGrp, h3]
              simp (disch := omega) [go_sem]
              refine callK_bool qa [] (by simp [go_sem]) (fun j1 => ?_) (fun j1 => ?_)
              · simp (disch := omega) [go_sem]
                refine callK_data qw [] (by simp [go_sem]) (.inl rfl) (by simp [go_sem]) (fun _ => ?_)
                rw [if_pos j1] at hl2 ho2
                rw [← ho2]
                simp (disch := omega) [go_sem, sitV, hg, grpV, em, h3]
                refine awz_loop mixed (fun b : Nat => ⟨[(8, .int .i64 b), (7, .int .i64 a), (6, .int .i64 (leastK s p.set (a + 1))), (5, .ptr 512 1 0 0), (4, .int .i64 k), (3, .int .u32 (allR p.set (a + 1) (allK s k))), (1, .ptr 0 1 0 0), (2, .bool false)], [(512, ⟨.box, 151, 5, [phaV p]⟩), (0, ⟨.box, 87, 12, [sitV s]⟩)], 4096, [], 104, 0, []⟩)
                  (fun b => b ≤ s.groups.length ∧ ∀ i, i < b → p.set.testBit i = true → isAp s a i = false) (fun b => s.groups.length - b) 0 ⟨by omega, fun a ha => by omega⟩ ?_ ?_
                · refine Le.mk [(0, some 0), (512, some 512)] [0, 512] ⟨rfl, rfl, rfl⟩ ?_ ?_ ?_ <;> simp [go_sem, sitV, phaV, hp1, hp2, hp3, hp4, hp5, hp6, hl2, maxI]
                · rintro b ⟨hb, hbo⟩
                  simp (disch := omega) [go_sem, sitV, phaV]
                  refine br_of (fun h4 => ?_) (fun h4 => ?_) <;> simp at h4
                  · have qb := rhas_spec p.set b (by omega) hset
                    have qc := hq a b (by omega) (by omega)
                    simp (disch := omega) [go_sem]
                    refine callK_bool qb [] (by simp [go_sem]) (fun j2 => ?_) (fun j2 => ?_)
                    · simp (disch := omega) [go_sem]
                      refine callK_bool qc [] (by simp [go_sem, hp1, hp2, hp3, hp4, hp5, hp6]) (fun j3 => ?_) (fun j3 => ?_)
                      · simp (disch := omega) [go_sem]
                        refine bad fun hc => ?_
                        have := hc.2.2.1 a h3 j1 b h4 j2
                        rw [j3] at this; cases this
                      · simp (disch := omega) [go_sem]
                        refine round_of (b + 1) ⟨by omega, fun i hi hI => ?_⟩ (by omega) (Le.mk [(0, some 0), (512, some 512)] [0, 512] ⟨rfl, rfl, rfl⟩ ?_ ?_ ?_)
                        · by_cases ei : i = b
                          · subst ei; exact j3
                          · exact hbo i (by omega) hI
                        all_goals simp [go_sem, sitV, phaV, hp1, hp2, hp3, hp4, hp5, hp6]
                    · simp (disch := omega) [go_sem]
                      refine round_of (b + 1) ⟨by omega, fun i hi hI => ?_⟩ (by omega) (Le.mk [(0, some 0), (512, some 512)] [0, 512] ⟨rfl, rfl, rfl⟩ ?_ ?_ ?_)
                      · by_cases ei : i = b
                        · subst ei; rw [j2] at hI; cases hI
                        · exact hbo i (by omega) hI
                      all_goals simp [go_sem, sitV, phaV, hp1, hp2, hp3, hp4, hp5, hp6]
                  · simp (disch := omega) [go_sem]
                    refine round_of (a + 1) ⟨by omega, fun i hi => ?_⟩ (by omega) (Le.mk [(0, some 0), (512, some 512)] [0, 512] ⟨rfl, rfl, rfl⟩ ?_ ?_ ?_)
                    · by_cases ei : i = a
                      · subst ei; exact fun _ b hb hB => hbo b (by omega) hB
                      · exact hmo i (by omega)
                    all_goals simp [go_sem, sitV, phaV, hp1, hp2, hp3, hp4, hp5, hp6]
              · rw [if_neg (by simp [j1])] at hl2 ho2
                simp (disch := omega) [go_sem]
                refine round_of (a + 1) ⟨by omega, fun i hi => ?_⟩ (by omega) (Le.mk [(0, some 0), (512, some 512)] [0, 512] ⟨rfl, rfl, rfl⟩ ?_ ?_ ?_)
                · by_cases ei : i = a
                  · subst ei; exact fun hh => by rw [j1] at hh; cases hh
                  · exact hmo i (by omega)
                all_goals simp [go_sem, sitV, phaV, hp1, hp2, hp3, hp4, hp5, hp6, hl2, ho2]
            · have hal : a = s.groups.length := by omega
              subst hal
              simp (disch := omega) [go_sem]
              refine callK_bool (rin_spec p.min (leastK s p.set s.groups.length) 1048576) [] (by simp [go_sem]) (fun j1 => ?_) (fun j1 => ?_)
              · rw [inN_iff] at j1
                simp (disch := omega) [go_sem]
                refine callK_bool (rin_spec p.max p.min 1048576) [] (by simp [go_sem]) (fun j2 => ?_) (fun j2 => ?_)
                · rw [inN_iff] at j2
                  simp (disch := omega) [go_sem]
                  refine callK_bool (rin_spec p.gap 1 1048576) [] (by simp [go_sem]) (fun j3 => ?_) (fun j3 => ?_)
                  · rw [inN_iff] at j3
                    simp (disch := omega) [go_sem]
                    rw [hor, ← hsucc]
                    refine round_of (k + 1) ⟨by omega, fun i hi => ?_⟩ (by omega) (Le.mk [(0, some 0)] [0] ⟨rfl, rfl, rfl⟩ ?_ ?_ ?_)
                    · by_cases ei : i = k
                      · subst ei; exact hat.2 ⟨hne, hlt, hmo, j1, j2, j3⟩
                      · exact hno i (by omega)
                    all_goals simp [go_sem, sitV, hp1, hp2, hp3, hp4, hp5, hp6]
                  · simp (disch := omega) [go_sem]
                    exact bad fun hc => by have := hc.2.2.2.2.2; rw [← inN_iff, j3] at this; cases this
                · simp (disch := omega) [go_sem]
                  exact bad fun hc => by have := hc.2.2.2.2.1; rw [← inN_iff, j2] at this; cases this
              · simp (disch := omega) [go_sem]
                exact bad fun hc => by have := hc.2.2.2.1; rw [← inN_iff, j1] at this; cases this
      · have hkl : k = s.phases.length := by omega
        subst hkl
        simp (disch := omega) [go_sem]
        refine callK_data (rcount_spec (allK s s.phases.length) (allK_lt hwp _ (Nat.le_refl _))) [] (by simp [go_sem]) (.inl rfl) (by simp [go_sem]) (fun _ => ?_)
        simp (disch := omega) [go_sem]
        refine ⟨.inl (by kernel_rfl), ?_⟩
        rw [Bool.eq_iff_iff, decide_eq_true_iff (p := RPhasesOk s)]
        simp only [beq_iff_eq]
        exact ⟨fun e => ⟨by omega, fun i hi => hno i hi, by omega⟩, fun hc => by have := hc.2.2; omega⟩
  · simp (disch := omega) [go_sem]
    intro hA
    rw [inN_iff.2 (by have := hA.1; omega)] at h1; cases h1

/-! The document's own answer on sites: plans; Check. -/
set_option maxHeartbeats 1000000 in
theorem rplan_spec (s : Sit) (p : Pln) (hG : GroupsOk s) (hN : NeedsOk s) (hL : 0 ≤ s.low ∧ s.high ≤ 1048576) : FnD Tryz.prog 154 [sitV s, plnV p] (.bool (decide (Fits s p))) := by
  have hpu := (⟨grps_pure s.groups, phas_pure s.phases, eyes_pure s.eyes, plns_pure s.plans, sets_pure s.apart, rows_pure s.between⟩ : _ ∧ _ ∧ _ ∧ _ ∧ _ ∧ _)
  obtain ⟨hp1, hp2, hp3, hp4, hp5, hp6⟩ := hpu
  have hne := fun i hi => rneeds_spec s i hG hi (hN i hi)
  have hsv : sitV s = .agg [.int .i64 s.id, .sl 3 (s.groups.map grpV), .sl 1 (sets s.apart), .sl 1 (rows s.between), .sl 5 (s.phases.map phaV), .sl 4 (s.eyes.map eyeV), .int .i64 s.watch, .int .i64 s.feed, .int .i64 s.heal, .int .i64 s.low, .int .i64 s.high, .sl 3 (s.plans.map plnV)] := rfl
  have hpv : plnV p = .agg [.int .i64 p.cycle, .int .i64 p.offset, .sl 1 (ints p.splits)] := rfl
  rw [hsv] at hne ⊢
  rw [hpv]
  refine fnD_of mixed Tryz.func154 rfl rfl (by simp [Tryz.ntmps154]) fun hwf E => ?_
  simp (disch := omega) [go_sem, ints_len] at hwf
  simp (disch := omega) [Tryz.ntmps154, go_sem]
  refine callK_bool (rin_spec p.cycle s.low s.high) [] (by simp [go_sem]) (fun h1 => ?_) (fun h1 => ?_)
  · rw [inN_iff] at h1
    simp (disch := omega) [go_sem]
    refine callK_bool (rin_spec p.offset 0 (p.cycle - 1)) [] (by simp [go_sem]) (fun h2 => ?_) (fun h2 => ?_)
    · rw [inN_iff] at h2
      simp (disch := omega) [go_sem, ints_len]
      refine br_of (fun h3 => ?_) (fun h3 => ?_) <;> simp at h3
      · simp (disch := omega) [go_sem]
        rintro ⟨_, _, a, _⟩; omega
      · have hl : p.splits.length = s.phases.length := by omega
        simp (disch := omega) [go_sem, ints_len]
        have hz : leftK p 0 = p.cycle := by simp [leftK]
        refine awz_loop mixed (fun k : Nat => ⟨[(6, .int .i64 k), (5, .int .i64 (leftK p k)), (3, .ptr 16 1 0 0), (2, .ptr 0 1 0 0), (4, .bool false)], [(16, ⟨.box, 89, 3, [plnV p]⟩), (0, ⟨.box, 87, 12, [sitV s]⟩)], 2048, [], 62, 0, []⟩)
          (fun k => k ≤ p.splits.length ∧ (0 ≤ leftK p k ∧ leftK p k ≤ 1048576) ∧ ∀ i, i < k → fitAt s p i) (fun k => p.splits.length - k) 0 ⟨by omega, by rw [hz]; omega, fun i hi => by omega⟩ ?_ ?_
        · refine Le.mk [(0, some 0), (16, some 16)] [0, 16] ⟨rfl, rfl, rfl⟩ ?_ ?_ ?_ <;> simp [go_sem, sitV, plnV, hp1, hp2, hp3, hp4, hp5, hp6, ints_pure, hz]
        · rintro k ⟨hk, hlk, hno⟩
          simp (disch := omega) [go_sem, sitV, plnV, ints_len]
          refine br_of (fun h => ?_) (fun h => ?_) <;> simp at h
          · have hnk := hN k (by omega)
            have g1 : p.splits.getD k 0 = p.splits[k] := by simp [h]
            have hfa : fitAt s p k ↔ inN p.splits[k] (needsN s k) (leftK p k) = true := by unfold fitAt; rw [g1, inN_iff]
            have hls := leftK_succ p k h
            simp (disch := omega) [go_sem, ints_len, nth_ints, h]
            refine callK_data (hne k (by omega)) [] (by simp [go_sem, hp1, hp2, hp3, hp4, hp5, hp6]) (.inl rfl) (by simp [go_sem]) (fun _ => ?_)
            simp (disch := omega) [go_sem]
            refine callK_bool (rin_spec p.splits[k] (needsN s k) (leftK p k)) [] (by simp [go_sem]) (fun h4 => ?_) (fun h4 => ?_)
            · have h5 := inN_iff.1 h4
              simp (disch := omega) [go_sem, ints_len, nth_ints, h]
              refine ⟨.inl (by kernel_rfl), ?_⟩
              refine round_of (k + 1) ⟨by omega, by omega, fun j hj => ?_⟩ (by omega) (Le.mk [(0, some 0), (16, some 16)] [0, 16] ⟨rfl, rfl, rfl⟩ ?_ ?_ ?_)
              · by_cases e : j = k
                · subst e; exact hfa.2 h4
                · exact hno j (by omega)
              all_goals simp [go_sem, sitV, plnV, hp1, hp2, hp3, hp4, hp5, hp6, ints_pure, hls]
            · simp (disch := omega) [go_sem]
              refine ⟨.inl (by kernel_rfl), ?_⟩
              rintro ⟨_, _, _, hall, _⟩
              have := hfa.1 (hall k h)
              rw [h4] at this; cases this
          · have hkl : k = p.splits.length := by omega
            subst hkl
            simp (disch := omega) [go_sem]
            rw [Bool.eq_iff_iff]
            simp
            constructor
            · intro h5; exact ⟨h1, h2, hl, hno, h5⟩
            · rintro ⟨_, _, _, _, h5⟩; exact h5
    · simp (disch := omega) [go_sem, ints_len]
      rintro ⟨_, a, _⟩
      rw [← inN_iff] at a; simp [h2] at a
  · simp (disch := omega) [go_sem, ints_len]
    rintro ⟨a, _⟩
    rw [← inN_iff] at a; simp [h1] at a

/-! Check -/
theorem groups_site {s : Sit} : SiteOk s ↔ GroupsOk s ∧ RPhasesOk s ∧ s.eyes.length ≤ 24 ∧ s.plans.length ≤ 8 ∧ s.eyes.all (eyeOk s.phases.length) = true ∧ timedN s = true ∧ (s.plans.all fun p => decide (Fits s p)) = true := by
  have hph : GroupsOk s → (∀ k, k < s.phases.length → rphaAt s k) → ∀ k, k < s.phases.length → phaAt s k := fun hG h k hk hh => (rpha_iff hG _).1 (h k hk hh)
  have hph2 : GroupsOk s → (∀ k, k < s.phases.length → phaAt s k) → ∀ k, k < s.phases.length → rphaAt s k := fun hG h k hk hh => (rpha_iff hG _).2 (h k hk hh)
  constructor
  · intro h
    have h0 := h 0 (by omega)
    have h1 := h 1 (by omega)
    have h2 := h 2 (by omega)
    obtain ⟨hid, hg, hla, hlb, hp, he, hl, hrow⟩ := h0
    have hG : GroupsOk s := ⟨hid, hg, hla, hlb, fun i hi => ⟨fun hh => (h1 i hi).1 hh, hrow i (by omega)⟩, fun a ha b hb => (h1 a ha).2 b hb⟩
    exact ⟨hG, ⟨hp, hph2 hG h2.1, h2.2⟩, he, hl, h 3 (by omega), h 4 (by omega), h 5 (by omega)⟩
  · rintro ⟨hG, hR, he, hl, h3, h4, h5⟩
    obtain ⟨hid, hg, hla, hlb, hr, hc⟩ := id hG
    intro i hi
    have hcs : i = 0 ∨ i = 1 ∨ i = 2 ∨ i = 3 ∨ i = 4 ∨ i = 5 := by omega
    rcases hcs with rfl | rfl | rfl | rfl | rfl | rfl
    · exact ⟨hid, hg, hla, hlb, hR.1, he, hl, fun i hi => (hr i (by omega)).2⟩
    · exact fun a ha => ⟨fun hh => (hr a ha).1 hh, fun b hb => hc a ha b hb⟩
    · exact ⟨hph hG hR.2.1, hR.2.2⟩
    · exact h3
    · exact h4
    · exact h5
/-- What phases need is bounded where groups and phases may be. -/
theorem needs_ok2 {s : Sit} (hG : GroupsOk s) (hR : RPhasesOk s) (he : s.eyes.length ≤ 24) (hl : s.plans.length ≤ 8) : NeedsOk s := by
  obtain ⟨hid, hg, hla, hlb, hr, hc⟩ := id hG
  exact needs_ok s ⟨hg, hla, hlb, hR.1, he, hl, fun i hi => (hr i (by omega)).2⟩ (fun a ha => ⟨fun hh => (hr a ha).1 hh, fun b hb => hc a ha b hb⟩) ⟨fun k hk hh => (rpha_iff hG _).1 (hR.2.1 k hk hh), hR.2.2⟩

/-! The document's own answer on sites: Check. -/
theorem round_pos {s : Sit} (hG : GroupsOk s) (hR : RPhasesOk s) (he : s.eyes.length ≤ 24) (hl : s.plans.length ≤ 8) : 1 ≤ roundK s s.phases.length := by
  have hN := needs_ok2 hG hR he hl
  obtain ⟨hid, hg, hla, hlb, hr, hc⟩ := id hG
  obtain ⟨k, hk⟩ : ∃ k, s.phases.length = k + 1 := ⟨s.phases.length - 1, by have := hR.1; omega⟩
  have hb := roundK_bound s hN k (by omega)
  rw [hk, roundK_succ]
  have hcl := clear_bound s ⟨hg, hla, hlb, hR.1, he, hl, fun i hi => (hr i (by omega)).2⟩ (fun a ha => ⟨fun hh => (hr a ha).1 hh, fun b hb => hc a ha b hb⟩) k ((k + 1) % s.phases.length)
  have hm := ((rpha_iff hG _).1 (hR.2.1 k (by omega) (by omega))).2.2.1.1
  have e : minAt s k = (s.phases[k]'(by omega)).min := by simp [minAt, show k < s.phases.length by omega]
  unfold needsN
  omega

set_option maxHeartbeats 4000000 in
theorem rcheck_spec (s : Sit) : FnD Tryz.prog 88 [sitV s] (.int .i64 (checkN s)) := by
  have hpu := (⟨grps_pure s.groups, phas_pure s.phases, eyes_pure s.eyes, plns_pure s.plans, sets_pure s.apart, rows_pure s.between⟩ : _ ∧ _ ∧ _ ∧ _ ∧ _ ∧ _)
  obtain ⟨hp1, hp2, hp3, hp4, hp5, hp6⟩ := hpu
  have qg := rgroups_spec s
  have qp := fun h => rphases_spec s h
  have qr := fun h1 h2 h3 => rround_spec s h1 h2 h3
  have qf := fun p h1 h2 h3 => rplan_spec s p h1 h2 h3
  have hsv : sitV s = .agg [.int .i64 s.id, .sl 3 (s.groups.map grpV), .sl 1 (sets s.apart), .sl 1 (rows s.between), .sl 5 (s.phases.map phaV), .sl 4 (s.eyes.map eyeV), .int .i64 s.watch, .int .i64 s.feed, .int .i64 s.heal, .int .i64 s.low, .int .i64 s.high, .sl 3 (s.plans.map plnV)] := rfl
  rw [hsv] at qg qp qr qf ⊢
  refine fnD_of mixed Tryz.func88 rfl rfl (by simp [Tryz.ntmps88]) fun hwf E => ?_
  simp (disch := omega) [go_sem, sets_len, rows_len] at hwf
  simp (disch := omega) [Tryz.ntmps88, go_sem]
  have bad : ¬ SiteOk s → checkN s = 50 := checkN_bad
  have hiff := groups_site (s := s)
  refine callK_bool qg [] (by simp [go_sem, hp1, hp2, hp3, hp4, hp5, hp6]) (fun h1 => ?_) (fun h1 => ?_)
  · have hG : GroupsOk s := of_decide_eq_true h1
    simp (disch := omega) [go_sem]
    refine callK_bool (qp hG) [] (by simp [go_sem, hp1, hp2, hp3, hp4, hp5, hp6]) (fun h2 => ?_) (fun h2 => ?_)
    · have hR : RPhasesOk s := of_decide_eq_true h2
      have hpl := hR.1
      simp (disch := omega) [go_sem]
      refine br_of (fun h3 => ?_) (fun h3 => ?_) <;> simp at h3
      · simp (disch := omega) [go_sem]
        exact (bad fun hA => by have := hiff.1 hA; omega).symm
      · have he : s.eyes.length ≤ 24 := by omega
        have hl : s.plans.length ≤ 8 := by omega
        have hN := needs_ok2 hG hR he hl
        have hrp := round_pos hG hR he hl
        have qr := qr hG hN hR.1.2
        simp (disch := omega) [go_sem]
        refine awz_loop mixed (fun k : Nat => ⟨[(3, .int .i64 k), (1, .ptr 0 1 0 0), (2, .int .i64 0)], [(0, ⟨.box, 87, 12, [sitV s]⟩)], 1024, [], 111, 0, []⟩)
          (fun k => k ≤ s.eyes.length ∧ ∀ j (h : j < s.eyes.length), j < k → eyeOk s.phases.length s.eyes[j] = true) (fun k => s.eyes.length - k) 0 (by simp) ?_ ?_
        · refine Le.mk [(0, some 0)] [0] ⟨rfl, rfl, rfl⟩ ?_ ?_ ?_ <;> simp [go_sem, sitV, hp1, hp2, hp3, hp4, hp5, hp6]
        · rintro k ⟨hk, hno⟩
          simp (disch := omega) [go_sem, sitV]
          refine br_of (fun h => ?_) (fun h => ?_) <;> simp at h
          · have he2 : nth (s.eyes.map eyeV) k = eyeV s.eyes[k] := nth_map h
            have badE : eyeOk s.phases.length s.eyes[k] = false → checkN s = 50 := fun hb => bad fun hA => by
              have := List.all_eq_true.1 (hiff.1 hA).2.2.2.2.1 _ (List.getElem_mem h)
              rw [hb] at this; cases this
            have hev : eyeOk s.phases.length s.eyes[k] = (inN s.eyes[k].phase 0 ((s.phases.length : Int) - 1) && (inN s.eyes[k].on 1 1048576 && inN s.eyes[k].off 1 1048576) && inN s.eyes[k].turns 1 64) := rfl
            simp (disch := omega) [go_sem, h, he2, eyeV, sitV]
            refine callK_bool (rin_spec s.eyes[k].phase 0 ((s.phases.length : Int) - 1)) [] (by simp [go_sem]) (fun j1 => ?_) (fun j1 => ?_)
            · simp (disch := omega) [go_sem]
              refine callK_bool (rin_spec s.eyes[k].on 1 1048576) [] (by simp [go_sem]) (fun j2 => ?_) (fun j2 => ?_)
              · simp (disch := omega) [go_sem]
                refine callK_bool (rin_spec s.eyes[k].off 1 1048576) [] (by simp [go_sem]) (fun j3 => ?_) (fun j3 => ?_)
                · simp (disch := omega) [go_sem]
                  refine callK_bool (rin_spec s.eyes[k].turns 1 64) [] (by simp [go_sem]) (fun j4 => ?_) (fun j4 => ?_)
                  · simp (disch := omega) [go_sem]
                    refine round_of (k + 1) ⟨by omega, fun j h4 hj => ?_⟩ (by omega) (Le.mk [(0, some 0)] [0] ⟨rfl, rfl, rfl⟩ ?_ ?_ ?_)
                    · by_cases e : j = k
                      · subst e; rw [hev, j1, j2, j3, j4]; rfl
                      · exact hno j h4 (by omega)
                    all_goals simp [go_sem, sitV, hp1, hp2, hp3, hp4, hp5, hp6]
                  · simp (disch := omega) [go_sem]
                    exact (badE (by rw [hev, j4]; simp)).symm
                · simp (disch := omega) [go_sem]
                  exact (badE (by rw [hev, j3]; simp)).symm
              · simp (disch := omega) [go_sem]
                exact (badE (by rw [hev, j2]; simp)).symm
            · simp (disch := omega) [go_sem]
              exact (badE (by rw [hev, j1]; simp)).symm
          · have hkl : k = s.eyes.length := by omega
            subst hkl
            have hall : s.eyes.all (eyeOk s.phases.length) = true := by
              rw [List.all_eq_true]
              intro x hx
              obtain ⟨j, hj, rfl⟩ := List.getElem_of_mem hx
              exact hno j hj hj
            have badT : timedN s = false → checkN s = 50 := fun hb => bad fun hA => by
              have := (hiff.1 hA).2.2.2.2.2.1
              rw [hb] at this; cases this
            have hT : timedN s = true ↔ (1 ≤ s.watch ∧ s.watch ≤ 1048576) ∧ (1 ≤ s.feed ∧ s.feed ≤ 1048576) ∧ (1 ≤ s.heal ∧ s.heal ≤ 1048576) ∧ (roundK s s.phases.length ≤ s.low ∧ s.low ≤ 1048576) ∧ (s.low ≤ s.high ∧ s.high ≤ 1048576) := by
              simp [timedN, inN]
              omega
            have badT2 : ¬ ((1 ≤ s.watch ∧ s.watch ≤ 1048576) ∧ (1 ≤ s.feed ∧ s.feed ≤ 1048576) ∧ (1 ≤ s.heal ∧ s.heal ≤ 1048576) ∧ (roundK s s.phases.length ≤ s.low ∧ s.low ≤ 1048576) ∧ (s.low ≤ s.high ∧ s.high ≤ 1048576)) → checkN s = 50 := fun hb => badT (by
              cases ht : timedN s with
              | false => rfl
              | true => exact absurd (hT.1 ht) hb)
            simp (disch := omega) [go_sem]
            refine callK_bool (rin_spec s.watch 1 1048576) [] (by simp [go_sem]) (fun j1 => ?_) (fun j1 => ?_)
            · rw [inN_iff] at j1
              simp (disch := omega) [go_sem]
              refine callK_bool (rin_spec s.feed 1 1048576) [] (by simp [go_sem]) (fun j2 => ?_) (fun j2 => ?_)
              · rw [inN_iff] at j2
                simp (disch := omega) [go_sem]
                refine callK_bool (rin_spec s.heal 1 1048576) [] (by simp [go_sem]) (fun j3 => ?_) (fun j3 => ?_)
                · rw [inN_iff] at j3
                  simp (disch := omega) [go_sem]
                  refine callK_data qr [] (by simp [go_sem, hp1, hp2, hp3, hp4, hp5, hp6]) (.inl rfl) (by simp [go_sem]) (fun _ => ?_)
                  simp (disch := omega) [go_sem]
                  refine callK_bool (rin_spec s.low (roundK s s.phases.length) 1048576) [] (by simp [go_sem]) (fun j4 => ?_) (fun j4 => ?_)
                  · rw [inN_iff] at j4
                    simp (disch := omega) [go_sem]
                    refine callK_bool (rin_spec s.high s.low 1048576) [] (by simp [go_sem]) (fun j5 => ?_) (fun j5 => ?_)
                    · rw [inN_iff] at j5
                      simp (disch := omega) [go_sem]
                      refine ⟨.inl (by kernel_rfl), ?_⟩
                      have hTk := hT.2 ⟨j1, j2, j3, j4, j5⟩
                      refine awz_loop mixed (fun k : Nat => ⟨[(5, .int .i64 k), (1, .ptr 0 1 0 0), (2, .int .i64 0)], [(0, ⟨.box, 87, 12, [sitV s]⟩)], 4096, [], 111, 0, []⟩)
                        (fun k => k ≤ s.plans.length ∧ ∀ j (h : j < s.plans.length), j < k → Fits s s.plans[j]) (fun k => s.plans.length - k) 0 (by simp) ?_ ?_
                      · refine Le.mk [(0, some 0)] [0] ⟨rfl, rfl, rfl⟩ ?_ ?_ ?_ <;> simp [go_sem, sitV, hp1, hp2, hp3, hp4, hp5, hp6]
                      · rintro r ⟨hr, hro⟩
                        simp (disch := omega) [go_sem, sitV]
                        refine br_of (fun h5 => ?_) (fun h5 => ?_) <;> simp at h5
                        · have hpv : nth (s.plans.map plnV) r = plnV s.plans[r] := nth_map h5
                          have hpl2 : plnV s.plans[r] = .agg [.int .i64 s.plans[r].cycle, .int .i64 s.plans[r].offset, .sl 1 (ints s.plans[r].splits)] := rfl
                          have qf := qf s.plans[r] hG hN ⟨by omega, by omega⟩
                          rw [hpl2] at qf
                          simp (disch := omega) [go_sem, h5, hpv, plnV]
                          refine callK_bool qf [] (by simp [go_sem, hp1, hp2, hp3, hp4, hp5, hp6, ints_pure]) (fun j6 => ?_) (fun j6 => ?_)
                          · simp (disch := omega) [go_sem]
                            refine ⟨.inl (by kernel_rfl), ?_⟩
                            refine round_of (r + 1) ⟨by omega, fun j h4 hj => ?_⟩ (by omega) (Le.mk [(0, some 0)] [0] ⟨rfl, rfl, rfl⟩ ?_ ?_ ?_)
                            · by_cases e : j = r
                              · subst e; exact of_decide_eq_true j6
                              · exact hro j h4 (by omega)
                            all_goals simp [go_sem, sitV, hp1, hp2, hp3, hp4, hp5, hp6]
                          · simp (disch := omega) [go_sem]
                            refine ⟨.inl (by kernel_rfl), (bad fun hA => ?_).symm⟩
                            have := List.all_eq_true.1 (hiff.1 hA).2.2.2.2.2.2 _ (List.getElem_mem h5)
                            rw [j6] at this; cases this
                        · simp (disch := omega) [go_sem]
                          refine (checkN_ok (hiff.2 ⟨hG, hR, he, hl, hall, hTk, ?_⟩)).symm
                          rw [List.all_eq_true]
                          intro x hx
                          obtain ⟨j, hj, rfl⟩ := List.getElem_of_mem hx
                          exact decide_eq_true (hro j hj (by omega))
                    · simp (disch := omega) [go_sem]
                      refine ⟨.inl (by kernel_rfl), (badT2 fun hc => ?_).symm⟩
                      rw [inN_iff.2 hc.2.2.2.2] at j5; cases j5
                  · simp (disch := omega) [go_sem]
                    refine ⟨.inl (by kernel_rfl), (badT2 fun hc => ?_).symm⟩
                    rw [inN_iff.2 hc.2.2.2.1] at j4; cases j4
                · simp (disch := omega) [go_sem]
                  refine ⟨.inl (by kernel_rfl), (badT2 fun hc => ?_).symm⟩
                  rw [inN_iff.2 hc.2.2.1] at j3; cases j3
              · simp (disch := omega) [go_sem]
                refine ⟨.inl (by kernel_rfl), (badT2 fun hc => ?_).symm⟩
                rw [inN_iff.2 hc.2.1] at j2; cases j2
            · simp (disch := omega) [go_sem]
              refine ⟨.inl (by kernel_rfl), (badT2 fun hc => ?_).symm⟩
              rw [inN_iff.2 hc.1] at j1; cases j1
    · simp (disch := omega) [go_sem]
      exact (bad fun hA => by have := (hiff.1 hA).2.1; simp [this] at h2).symm
  · simp (disch := omega) [go_sem]
    exact (bad fun hA => by have := (hiff.1 hA).1; simp [this] at h1).symm
end Go.Proofs.YtdeionjkcmpnpaaGreatDoor
