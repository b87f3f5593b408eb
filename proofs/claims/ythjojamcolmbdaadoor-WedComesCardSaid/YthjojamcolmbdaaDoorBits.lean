/- Contracts of the layer ring: sets of bits. -/
import Derived.Test.YthjojamcolmbdaaDoorAmClose
import Derived.Test.YthjojamcolmbdaaDoorFacts
namespace Go.Proofs.YthjojamcolmbdaaDoor
open Go.AM Go.RowKit
set_option maxRecDepth 100000

def bitN (i : Int) : Nat := if i < 0 ∨ i > 31 then 0 else 2 ^ i.toNat
theorem bitN_lt (i : Int) : bitN i < 4294967296 := by
  unfold bitN
  split
  · omega
  · have : i.toNat ≤ 31 := by omega
    calc 2 ^ i.toNat ≤ 2 ^ 31 := Nat.pow_le_pow_right (by omega) this
      _ < _ := by decide

theorem bit_spec (i : Int) : FnD Tryd.prog 131 [.int .i64 i] (.int .u32 (bitN i)) := by
  refine fnD_of mixed Tryd.func131 rfl rfl (by simp [Tryd.ntmps131]) fun hwf E => ?_
  simp (disch := omega) [Tryd.ntmps131, go_sem]
  refine br_of (fun h => ?_) (fun h => ?_) <;> simp at h <;> simp (disch := omega) [go_sem]
  · unfold bitN; rw [if_pos (by omega)]; rfl
  · have e : bitN i = 2 ^ i.toNat := by unfold bitN; rw [if_neg (by omega)]
    have := bitN_lt i
    refine ⟨by omega, ?_⟩
    rw [e] at this ⊢
    have e2 : (2 : Int) ^ i.toNat = ((2 ^ i.toNat : Nat) : Int) := by simp
    rw [e2]
    generalize 2 ^ i.toNat = q at this ⊢
    exact u32_wrap (by omega) (by omega)

def withoutN (s : Nat) (i : Int) : Nat := andNotN s (bitN i)
theorem bitN_testBit (i : Int) (j : Nat) (hj : j < 32) : (bitN i).testBit j = decide ((j : Int) = i) := by
  unfold bitN
  split
  · rename_i h
    simp; omega
  · rename_i h
    rw [Nat.testBit_two_pow]
    congr 1
    rw [eq_iff_iff]; omega
theorem high_bit {s : Nat} (hs : s < 4294967296) {j : Nat} (hj : ¬ j < 32) : s.testBit j = false := by
  have h2 : 2 ^ 32 ≤ 2 ^ j := Nat.pow_le_pow_right (by omega) (by omega)
  exact Nat.testBit_lt_two_pow (Nat.lt_of_lt_of_le hs h2)
theorem withoutN_lt (s : Nat) (i : Int) : withoutN s i < 4294967296 := BitVec.isLt _
theorem withoutN_testBit {s : Nat} (hs : s < 4294967296) (i : Int) (j : Nat) : (withoutN s i).testBit j = (s.testBit j && !decide ((j : Int) = i)) := by
  by_cases hj : j < 32
  · unfold withoutN andNotN
    rw [BitVec.toNat_and, BitVec.toNat_not, Nat.testBit_and]
    simp [Nat.mod_eq_of_lt hs, Nat.mod_eq_of_lt (bitN_lt i)]
    have hb := bitN_lt i
    rw [show 4294967295 - bitN i = 2 ^ 32 - (bitN i + 1) by omega, Nat.testBit_two_pow_sub_succ (n := 32) hb, bitN_testBit i j hj]
    simp [hj]
  · rw [high_bit (withoutN_lt s i) hj, high_bit hs hj]; rfl

def hasN (s : Nat) (i : Int) : Bool := decide (0 ≤ i) && s.testBit i.toNat
theorem hasN_and {s : Nat} (hs : s < 4294967296) (i : Int) : ((((s &&& bitN i : Nat) : Int)) != 0) = hasN s i := by
  unfold hasN
  by_cases h : i < 0 ∨ i > 31
  · have : bitN i = 0 := by unfold bitN; rw [if_pos h]
    rw [this]
    rcases h with h | h
    · simp [show ¬ 0 ≤ i by omega]
    · rw [high_bit hs (by omega : ¬ i.toNat < 32)]; simp
  · have : bitN i = 2 ^ i.toNat := by unfold bitN; rw [if_neg h]
    rw [this]
    simp only [show 0 ≤ i by omega, decide_true, Bool.true_and]
    cases hb : s.testBit i.toNat
    · have : s &&& 2 ^ i.toNat = 0 := by
        apply Nat.eq_of_testBit_eq
        intro j
        rw [Nat.testBit_and, Nat.testBit_two_pow, Nat.zero_testBit]
        by_cases e : i.toNat = j
        · subst e; simp [hb]
        · simp [e]
      rw [this]; rfl
    · have : s &&& 2 ^ i.toNat ≠ 0 := by
        intro e
        have h2 : (s &&& 2 ^ i.toNat).testBit i.toNat = true := by rw [Nat.testBit_and, hb, Nat.testBit_two_pow]; simp
        rw [e] at h2; simp at h2
      simp; omega
theorem has_spec (s : Nat) (i : Int) (hs : s < 4294967296) : FnD Tryd.prog 78 [.int .u32 s, .int .i64 i] (.bool (hasN s i)) := by
  refine fnD_of mixed Tryd.func78 rfl rfl (by simp [Tryd.ntmps78]) fun hwf E => ?_
  simp (disch := omega) [Tryd.ntmps78, go_sem]
  refine callK_data (bit_spec i) [] (by simp [go_sem]) (.inl rfl) (by simp [go_sem]) fun _ => ?_
  simp (disch := omega) [go_sem]
  have := bitN_lt i
  simp (disch := omega) [go_sem]
  exact hasN_and hs i
theorem without_spec (s : Nat) (i : Int) (hs : s < 4294967296) : FnD Tryd.prog 128 [.int .u32 s, .int .i64 i] (.int .u32 (withoutN s i)) := by
  refine fnD_of mixed Tryd.func128 rfl rfl (by simp [Tryd.ntmps128]) fun hwf E => ?_
  simp (disch := omega) [Tryd.ntmps128, go_sem]
  refine callK_data (bit_spec i) [] (by simp [go_sem]) (.inl rfl) (by simp [go_sem]) fun _ => ?_
  simp (disch := omega) [go_sem]
  rfl
end Go.Proofs.YthjojamcolmbdaaDoor
