/- Contracts and laws beneath the statement, in build order. -/
import Derived.Test.YtpijmanjjhpkiaaGreatDoorPBAmClose
import Derived.Test.YtpijmanjjhpkiaaGreatDoorPBFacts
import Derived.Test.YtpijmanjjhpkiaaGreatDoorRows
import Derived.Test.YtpijmanjjhpkiaaGreatDoorTie
import Derived.Test.YtpijmanjjhpkiaaGreatDoorCards
import Derived.Carry
import Derived.ProofKit
import Derived.LaidMore
import Derived.OpenShut
import Derived.Stop.Joined
set_option linter.unusedSimpArgs false
set_option linter.unusedVariables false
namespace Go.Proofs.YtpijmanjjhpkiaaGreatDoor
open Go.AM Go.RowKit
set_option maxRecDepth 100000

/-! Contracts of the layer ring: sets of bits. -/
def bitN (i : Int) : Nat := if i < 0 ∨ i > 31 then 0 else 2 ^ i.toNat
theorem bitN_lt (i : Int) : bitN i < 4294967296 := by
  unfold bitN
  split
  · omega
  · have : i.toNat ≤ 31 := by omega
    calc 2 ^ i.toNat ≤ 2 ^ 31 := Nat.pow_le_pow_right (by omega) this
      _ < _ := by decide

theorem bit_spec (i : Int) : FnD Tryz.prog 162 [.int .i64 i] (.int .u32 (bitN i)) := by
  refine fnD_of mixed Tryz.func162 rfl rfl (by simp [Tryz.ntmps162]) fun hwf E => ?_
  simp (disch := omega) [Tryz.ntmps162, go_sem]
  refine br_of (fun h => ?_) (fun h => ?_) <;> simp at h <;> simp (disch := omega) [go_sem]
  · unfold bitN; rw [if_pos (by omega)]; rfl
  · have e : bitN i = 2 ^ i.toNat := by unfold bitN; rw [if_neg (by omega)]
    have := bitN_lt i
    refine ⟨by omega, ?_⟩
    rw [e] at this ⊢
    have e2 : (2 : Int) ^ i.toNat = ((2 ^ i.toNat : Nat) : Int) := by simp
    rw [e2]
    generalize 2 ^ i.toNat = q at this ⊢
    exact u32_wrap (by omega) (by omega)

def withoutN (s : Nat) (i : Int) : Nat := andNotN s (bitN i)
theorem bitN_testBit (i : Int) (j : Nat) (hj : j < 32) : (bitN i).testBit j = decide ((j : Int) = i) := by
  unfold bitN
  split
  · rename_i h
    simp; omega
  · rename_i h
    rw [Nat.testBit_two_pow]
    congr 1
    rw [eq_iff_iff]; omega
theorem high_bit {s : Nat} (hs : s < 4294967296) {j : Nat} (hj : ¬ j < 32) : s.testBit j = false := by
  have h2 : 2 ^ 32 ≤ 2 ^ j := Nat.pow_le_pow_right (by omega) (by omega)
  exact Nat.testBit_lt_two_pow (Nat.lt_of_lt_of_le hs h2)
theorem withoutN_lt (s : Nat) (i : Int) : withoutN s i < 4294967296 := BitVec.isLt _
theorem withoutN_testBit {s : Nat} (hs : s < 4294967296) (i : Int) (j : Nat) : (withoutN s i).testBit j = (s.testBit j && !decide ((j : Int) = i)) := by
  by_cases hj : j < 32
  · unfold withoutN andNotN
    rw [BitVec.toNat_and, BitVec.toNat_not, Nat.testBit_and]
    simp [Nat.mod_eq_of_lt hs, Nat.mod_eq_of_lt (bitN_lt i)]
    have hb := bitN_lt i
    rw [show 4294967295 - bitN i = 2 ^ 32 - (bitN i + 1) by omega, Nat.testBit_two_pow_sub_succ (n := 32) hb, bitN_testBit i j hj]
    simp [hj]
  · rw [high_bit (withoutN_lt s i) hj, high_bit hs hj]; rfl

def hasN (s : Nat) (i : Int) : Bool := decide (0 ≤ i) && s.testBit i.toNat
theorem hasN_and {s : Nat} (hs : s < 4294967296) (i : Int) : ((((s &&& bitN i : Nat) : Int)) != 0) = hasN s i := by
  unfold hasN
  by_cases h : i < 0 ∨ i > 31
  · have : bitN i = 0 := by unfold bitN; rw [if_pos h]
    rw [this]
    rcases h with h | h
    · simp [show ¬ 0 ≤ i by omega]
    · rw [high_bit hs (by omega : ¬ i.toNat < 32)]; simp
  · have : bitN i = 2 ^ i.toNat := by unfold bitN; rw [if_neg h]
    rw [this]
    simp only [show 0 ≤ i by omega, decide_true, Bool.true_and]
    cases hb : s.testBit i.toNat
    · have : s &&& 2 ^ i.toNat = 0 := by
        apply Nat.eq_of_testBit_eq
        intro j
        rw [Nat.testBit_and, Nat.testBit_two_pow, Nat.zero_testBit]
        by_cases e : i.toNat = j
        · subst e; simp [hb]
        · simp [e]
      rw [this]; rfl
    · have : s &&& 2 ^ i.toNat ≠ 0 := by
        intro e
        have h2 : (s &&& 2 ^ i.toNat).testBit i.toNat = true := by rw [Nat.testBit_and, hb, Nat.testBit_two_pow]; simp
        rw [e] at h2; simp at h2
      simp; omega
theorem has_spec (s : Nat) (i : Int) (hs : s < 4294967296) : FnD Tryz.prog 141 [.int .u32 s, .int .i64 i] (.bool (hasN s i)) := by
  refine fnD_of mixed Tryz.func141 rfl rfl (by simp [Tryz.ntmps141]) fun hwf E => ?_
  simp (disch := omega) [Tryz.ntmps141, go_sem]
  refine callK_data (bit_spec i) [] (by simp [go_sem]) (.inl rfl) (by simp [go_sem]) fun _ => ?_
  simp (disch := omega) [go_sem]
  have := bitN_lt i
  simp (disch := omega) [go_sem]
  exact hasN_and hs i
theorem without_spec (s : Nat) (i : Int) (hs : s < 4294967296) : FnD Tryz.prog 143 [.int .u32 s, .int .i64 i] (.int .u32 (withoutN s i)) := by
  refine fnD_of mixed Tryz.func143 rfl rfl (by simp [Tryz.ntmps143]) fun hwf E => ?_
  simp (disch := omega) [Tryz.ntmps143, go_sem]
  refine callK_data (bit_spec i) [] (by simp [go_sem]) (.inl rfl) (by simp [go_sem]) fun _ => ?_
  simp (disch := omega) [go_sem]
  rfl

/-! Contracts of the layer ring: the lowest bit, how many bits. -/
theorem odd_part : ∀ (s : Nat), s ≠ 0 → ∃ k m, s = 2 ^ (k + 1) * m + 2 ^ k := by
  intro s
  induction s using Nat.strongRecOn with
  | ind s ih =>
    intro h
    by_cases ho : s % 2 = 1
    · exact ⟨0, s / 2, by simp; omega⟩
    · obtain ⟨k, m, e⟩ := ih (s / 2) (by omega) (by omega)
      refine ⟨k + 1, m, ?_⟩
      have h2 : s = 2 * (s / 2) := by omega
      rw [h2, e, Nat.pow_succ 2 (k + 1), Nat.pow_succ 2 k]
      rw [Nat.mul_add, ← Nat.mul_assoc, Nat.mul_comm 2 (2 ^ k * 2), Nat.mul_comm 2 (2 ^ k)]

def lowN (s : Nat) : Nat := ((List.range 32).find? fun j => s.testBit j).getD 32

theorem low_ex (s : Nat) (h : s ≠ 0) (hs : s < 4294967296) : lowN s < 32 ∧ s.testBit (lowN s) = true ∧ (∀ j, j < lowN s → s.testBit j = false) ∧
    s &&& (4294967296 - s) = 2 ^ lowN s := by
  obtain ⟨k, m, e⟩ := odd_part s h
  have hp : 2 ^ k < 2 ^ (k + 1) := Nat.pow_lt_pow_right (by omega) (by omega)
  have hpos : 0 < 2 ^ k := Nat.two_pow_pos k
  have b1 : ∀ j, s.testBit j = if j < k + 1 then decide (k = j) else m.testBit (j - (k + 1)) := by
    intro j
    rw [e, Nat.testBit_two_pow_mul_add _ hp, Nat.testBit_two_pow]
  have b2 : ∀ j, (s - 1).testBit j = if j < k + 1 then decide (j < k) else m.testBit (j - (k + 1)) := by
    intro j
    have : s - 1 = 2 ^ (k + 1) * m + (2 ^ k - 1) := by omega
    rw [this, Nat.testBit_two_pow_mul_add _ (by omega), Nat.testBit_two_pow_sub_one]
  have hk : s.testBit k = true := by rw [b1]; simp
  have hlo : ∀ j, j < k → s.testBit j = false := by
    intro j hj
    rw [b1, if_pos (by omega)]; simp; omega
  have hk32 : k < 32 := by
    apply Classical.byContradiction
    intro h'
    rw [high_bit hs h'] at hk; cases hk
  have hlow : lowN s = k := by
    unfold lowN
    have : (List.range 32).find? (fun j => s.testBit j) = some k := by
      rw [List.find?_range_eq_some]
      exact ⟨hk, by simp [hk32], fun j hj => by simp [hlo j hj]⟩
    rw [this]; rfl
  rw [hlow]
  refine ⟨hk32, hk, hlo, ?_⟩
  apply Nat.eq_of_testBit_eq
  intro j
  rw [Nat.testBit_and, Nat.testBit_two_pow]
  have e3 : 4294967296 - s = 2 ^ 32 - ((s - 1) + 1) := by omega
  rw [e3, Nat.testBit_two_pow_sub_succ (n := 32) (by omega), b1, b2]
  by_cases h1 : j < k + 1
  · rw [if_pos h1, if_pos h1]
    by_cases h2 : k = j
    · subst h2; simp [hk32]
    · simp [h2]
  · rw [if_neg h1, if_neg h1]
    cases m.testBit (j - (k + 1)) <;> simp <;> omega

def tab : List V := [.agg ([0, 1, 28, 2, 29, 14, 24, 3, 30, 22, 20, 15, 25, 17, 4, 8, 31, 27, 13, 23, 21, 19, 16, 7, 26, 12, 18, 6, 11, 5, 10, 9].map fun n => V.int .u8 n)]
def tabG : Globs := [(0, 32, tab)]
def hashI (k : Nat) : Int := (IntKind.u32.wrap ((2 ^ k : Nat) * 125613361)).fdiv 134217728
theorem hash_ok (k : Nat) (hk : k < 32) : 0 ≤ hashI k ∧ hashI k < 32 ∧ partV Tryz.prog 5 (nth tab 0) (hashI k).toNat = some (.int .u8 k) := by
  have h : ∀ k : Fin 32, 0 ≤ hashI k ∧ hashI k < 32 := by decide +kernel
  refine ⟨(h ⟨k, hk⟩).1, (h ⟨k, hk⟩).2, ?_⟩
  have h2 : ∀ k : Fin 32, ([0, 1, 28, 2, 29, 14, 24, 3, 30, 22, 20, 15, 25, 17, 4, 8, 31, 27, 13, 23, 21, 19, 16, 7, 26, 12, 18, 6, 11, 5, 10, 9] : List Nat)[(hashI k).toNat]? = some k.val := by decide +kernel
  have h3 := h2 ⟨k, hk⟩
  show (match isRowT Tryz.prog 5, (nth tab 0).cl with
    | some true, some cs => if (hashI k).toNat = 0 ∧ cs.length = Tryz.prog.cellsOf 5 then some (nth tab 0) else if (hashI k).toNat + Tryz.prog.cellsOf 5 ≤ cs.length then some (.agg ((cs.drop (hashI k).toNat).take (Tryz.prog.cellsOf 5))) else none
    | some false, some cs => cs[(hashI k).toNat]?
    | some false, none => if (hashI k).toNat = 0 then (match nth tab 0 with | .opt _ _ | .tup _ => none | _ => some (nth tab 0)) else none
    | _, _ => none) = _
  simp only [frow5]
  show ([0, 1, 28, 2, 29, 14, 24, 3, 30, 22, 20, 15, 25, 17, 4, 8, 31, 27, 13, 23, 21, 19, 16, 7, 26, 12, 18, 6, 11, 5, 10, 9].map fun n : Nat => V.int .u8 n)[(hashI k).toNat]? = _
  rw [List.getElem?_map]
  show (([0, 1, 28, 2, 29, 14, 24, 3, 30, 22, 20, 15, 25, 17, 4, 8, 31, 27, 13, 23, 21, 19, 16, 7, 26, 12, 18, 6, 11, 5, 10, 9] : List Nat)[(hashI k).toNat]?).map _ = _
  rw [h3]; rfl
theorem trail_spec (s : Nat) (h0 : s ≠ 0) (hs : s < 4294967296) : FnD Tryz.prog 163 [.int .u32 s] (.int .i64 (lowN s)) tabG := by
  obtain ⟨hk, -, -, he⟩ := low_ex s h0 hs
  refine fnD_of mixed Tryz.func163 rfl rfl (by simp [Tryz.ntmps163]) fun hwf E => ?_
  simp (disch := omega) [Tryz.ntmps163, go_sem, tabG]
  refine br_of (fun h => ?_) (fun h => ?_) <;> simp at h
  · exact absurd h h0
  · have hpos : 0 < s := by omega
    simp (disch := omega) [go_sem, he]
    clear he
    generalize lowN s = k at hk ⊢
    have hx : (IntKind.u32.wrap ((2 : Int) ^ k * 125613361)).fdiv 134217728 = hashI k := by simp [hashI]
    have hb := hash_ok k hk
    simp only [hx]
    refine ⟨⟨hb.1, hb.2.1⟩, ?_⟩
    have hl : (0 : Nat) < tab.length := by decide
    rw [hb.2.2]
    simp (disch := omega) [go_sem, hl]

def leastN (s : Nat) : Int := if s = 0 then -1 else lowN s
theorem least_spec (s : Nat) (hs : s < 4294967296) : FnD Tryz.prog 142 [.int .u32 s] (.int .i64 (leastN s)) tabG := by
  refine fnD_of mixed Tryz.func142 rfl rfl (by simp [Tryz.ntmps142]) fun hwf E => ?_
  simp (disch := omega) [Tryz.ntmps142, go_sem]
  refine br_of (fun h => ?_) (fun h => ?_) <;> simp at h
  · simp (disch := omega) [go_sem, leastN, h]
  · simp (disch := omega) [go_sem]
    refine callK_data (trail_spec s h hs) [] (by simp [go_sem]) (.inl rfl) (by simp [go_sem]) (fun _ => ?_) (by simp [tabG, go_sem])
    simp (disch := omega) [go_sem, leastN, h]

/-! how many bits -/
def pop8 (n : Nat) : Nat := (List.range 8).countP fun j => n.testBit j
def popN (s : Nat) : Nat := (List.range 32).countP fun j => s.testBit j
theorem pop_parts (s : Nat) (hs : s < 4294967296) : popN s = pop8 (s % 256) + pop8 (s / 256 % 256) + pop8 (s / 65536 % 256) + pop8 (s / 16777216) := by
  have r : List.range 32 = List.range 8 ++ (List.range 8).map (8 + ·) ++ (List.range 8).map (16 + ·) ++ (List.range 8).map (24 + ·) := by decide
  unfold popN
  rw [r, List.countP_append, List.countP_append, List.countP_append, List.countP_map, List.countP_map, List.countP_map]
  unfold pop8
  have e0 : ∀ j ∈ List.range 8, (s.testBit j = true ↔ (s % 256).testBit j = true) := by
    intro j hj
    have hj : j < 8 := by simpa using hj
    rw [show (256 : Nat) = 2 ^ 8 from rfl, Nat.testBit_mod_two_pow]; simp [hj]
  have e1 : ∀ j ∈ List.range 8, (((fun j => s.testBit j) ∘ (8 + ·)) j = true ↔ (s / 256 % 256).testBit j = true) := by
    intro j hj
    have hj : j < 8 := by simpa using hj
    rw [show (256 : Nat) = 2 ^ 8 from rfl, Nat.testBit_mod_two_pow, Nat.testBit_div_two_pow]; simp [hj, Nat.add_comm]
  have e2 : ∀ j ∈ List.range 8, (((fun j => s.testBit j) ∘ (16 + ·)) j = true ↔ (s / 65536 % 256).testBit j = true) := by
    intro j hj
    have hj : j < 8 := by simpa using hj
    rw [show (256 : Nat) = 2 ^ 8 from rfl, show (65536 : Nat) = 2 ^ 16 from rfl, Nat.testBit_mod_two_pow, Nat.testBit_div_two_pow]; simp [hj, Nat.add_comm]
  have e3 : ∀ j ∈ List.range 8, (((fun j => s.testBit j) ∘ (24 + ·)) j = true ↔ (s / 16777216).testBit j = true) := by
    intro j hj
    rw [show (16777216 : Nat) = 2 ^ 24 from rfl, Nat.testBit_div_two_pow]; simp [Nat.add_comm]
  rw [List.countP_congr e0, List.countP_congr e1, List.countP_congr e2, List.countP_congr e3]
theorem pop8_le (n : Nat) : pop8 n ≤ 8 := by
  have := List.countP_le_length (p := fun j => n.testBit j) (l := List.range 8)
  simpa [pop8] using this
theorem ones_key (s : Nat) (hs : s < 4294967296) (T : ByteArray) (hT : ∀ i, i < 256 → byteAt T i = pop8 i) :
    IntKind.i64.wrap (IntKind.u8.wrap (IntKind.u8.wrap (IntKind.u8.wrap (byteAt T ((s : Int) / 16777216).toNat + byteAt T ((s : Int) / 65536 % 256).toNat) + byteAt T ((s : Int) / 256 % 256).toNat) + byteAt T ((s : Int) % 256).toNat)) = popN s := by
  rw [show ((s : Int) / 16777216).toNat = s / 16777216 by omega, show ((s : Int) / 65536 % 256).toNat = s / 65536 % 256 by omega, show ((s : Int) / 256 % 256).toNat = s / 256 % 256 by omega, show ((s : Int) % 256).toNat = s % 256 by omega]
  rw [hT _ (by omega), hT _ (by omega), hT _ (by omega), hT _ (by omega), pop_parts s hs]
  have h1 := pop8_le (s / 16777216)
  have h2 := pop8_le (s / 65536 % 256)
  have h3 := pop8_le (s / 256 % 256)
  have h4 := pop8_le (s % 256)
  rw [u8_wrap (n := (pop8 (s / 16777216) : Int) + pop8 (s / 65536 % 256)) (by omega) (by omega), u8_wrap (n := (pop8 (s / 16777216) : Int) + pop8 (s / 65536 % 256) + pop8 (s / 256 % 256)) (by omega) (by omega),
    u8_wrap (n := (pop8 (s / 16777216) : Int) + pop8 (s / 65536 % 256) + pop8 (s / 256 % 256) + pop8 (s % 256)) (by omega) (by omega), i64_wrap (by omega) (by omega)]
  omega
theorem ones_spec (s : Nat) (hs : s < 4294967296) : FnD Tryz.prog 164 [.int .u32 s] (.int .i64 (popN s)) := by
  refine fnD_of mixed Tryz.func164 rfl rfl (by simp [Tryz.ntmps164]) fun hwf E => ?_
  have f1 : (s : Int).fdiv 16777216 = ((s / 16777216 : Nat) : Int) := by rw [Int.fdiv_eq_ediv_of_nonneg _ (by omega)]; rfl
  have f2 : (s : Int).fdiv 65536 = ((s / 65536 : Nat) : Int) := by rw [Int.fdiv_eq_ediv_of_nonneg _ (by omega)]; rfl
  have f3 : (s : Int).fdiv 256 = ((s / 256 : Nat) : Int) := by rw [Int.fdiv_eq_ediv_of_nonneg _ (by omega)]; rfl
  simp (disch := omega) [Tryz.ntmps164, go_sem, f1, f2, f3]
  refine ⟨⟨by omega, by omega⟩, ⟨by omega, by omega⟩, ⟨by omega, by omega⟩, ⟨by omega, by omega⟩, .inl (by kernel_rfl), ?_⟩
  exact ones_key s hs _ (by decide +kernel)
theorem count_spec (s : Nat) (hs : s < 4294967296) : FnD Tryz.prog 144 [.int .u32 s] (.int .i64 (popN s)) := by
  refine fnD_of mixed Tryz.func144 rfl rfl (by simp [Tryz.ntmps144]) fun hwf E => ?_
  simp (disch := omega) [Tryz.ntmps144, go_sem]
  refine callK_data (ones_spec s hs) [] (by simp [go_sem]) (.inl rfl) (by simp [go_sem]) fun _ => ?_
  simp (disch := omega) [go_sem]
end Go.Proofs.YtpijmanjjhpkiaaGreatDoor

namespace Go.Proofs.YtpijmanjjhpkiaaGreatDoor
open Go.AM Go.RowKit

theorem own : ownKnob Tryz.prog.godebug = none := by kernel_rfl
theorem laidOut : laidOutB Tryz.prog = true := by kernel_rfl
theorem gTab : Tryz.prog.globalNamed "math/bits.deBruijn32tab" = some 0 := by kernel_rfl
theorem tTab : (Tryz.prog.globals[0]?).map (·.type) = some 206 := by kernel_rfl
def laidL : List (String × DataW Unit) := [("math/bits.deBruijn32tab", Rows.laid_math_bits_deBruijn32tab)]

set_option maxRecDepth 100000 in
theorem door_met (os : Os) (args : Array Value) : laidMetH Tryz.prog laidL ((World.doorLaid Tryz.prog 14 os).forCall (fun _ _ => 0) ⟨#[], args, []⟩).memory :=
  laidMetH_of_parts3 (fuel := 8) (laidMet_of_run' 8 (by kernel_rfl) (by kernel_rfl)) (by kernel_rfl) (by kernel_rfl)

def tabI : List Int := [0, 1, 28, 2, 29, 14, 24, 3, 30, 22, 20, 15, 25, 17, 4, 8, 31, 27, 13, 23, 21, 19, 16, 7, 26, 12, 18, 6, 11, 5, 10, 9]
theorem lits_of {xs : List (DataW Unit × List MemPlace)} {cs : List Value} {l : List Int} (hc : cs.length = l.length) (h : xs.map (·.1) = l.map fun n => .lit (.int .u8 n))
    (hel : ∀ i, i < l.length → ∃ n, (cs.drop i).take 1 = [.int .u8 n] ∧ ∃ p, xs[i]? = some (.lit (.int .u8 n), p)) : cs = l.map fun n => .int .u8 n := by
  apply List.ext_getElem (by simpa using hc)
  intro i h1 h2
  have h2' : i < l.length := by simpa using h2
  obtain ⟨n, hn, p, hp⟩ := hel i h2'
  have e1 := congrArg (fun z => z[i]?) h
  simp only [List.getElem?_map, hp, List.getElem?_eq_getElem h2', Option.map_some, Option.some.injEq, DataW.lit.injEq, Lit.int.injEq, true_and] at e1
  have e2 : cs[i]? = some (.int .u8 n) := by
    have := congrArg (fun z => z[0]?) hn
    simpa using this
  rw [List.getElem?_eq_getElem h1] at e2
  simp only [List.getElem_map]
  rw [← e1]
  exact Option.some.inj e2

theorem RVl_u8 {c : Ctx} : ∀ (l : List Int), (∀ n ∈ l, 0 ≤ n ∧ n ≤ 255) → RVl c (l.map fun n => V.int .u8 n) (l.map fun n => Value.int .u8 n)
  | [], _ => by simp [RVl]
  | n :: l, h => by
    simp only [List.map_cons, RVl]
    have hn := h n (by simp)
    refine ⟨_, _, rfl, ?_, RVl_u8 l fun m hm => h m (by simp [hm])⟩
    have hk : IntKind.u8.has n := by simp [IntKind.has, u8_min, u8_max]; omega
    simp [RV, hk]

set_option maxRecDepth 100000 in
theorem glob_of {W : World} (h : laidMetH Tryz.prog laidL W) : GlobW W (fun _ => False) tabG := by
  rw [MakeChecks.laidMetH_plain _ _ _ (by kernel_rfl)] at h
  obtain ⟨ps, ⟨g0, t0, cs0, f0, p0, q0, hg0, ht0, hv0, hd0, _, _⟩, _, _⟩ := h
  obtain rfl := Option.some.inj (gTab.symm.trans hg0)
  obtain rfl := Option.some.inj (tTab.symm.trans ht0)
  obtain ⟨xs, m1, rfl, hx1, hlen, hn, hel⟩ := DataW.trod_array Tryz.underlying206 hd0
  have c8 : Tryz.prog.cellsOf 5 = 1 := by kernel_rfl
  have c32 : Tryz.prog.cellsOf 206 = 32 := by kernel_rfl
  have hxs : xs.map (·.1) = tabI.map fun n => .lit (.int .u8 n) := by
    simp only [Prod.mk.injEq] at hx1
    have := hx1.1
    unfold Rows.laid_math_bits_deBruijn32tab at this
    simp only [DataW.agg.injEq] at this
    exact this.symm
  have hcs : cs0.toList = tabI.map fun n => .int .u8 n := by
    refine lits_of (by rw [hlen, c32]; rfl) hxs fun i hi => ?_
    have h1 := hel i (by simpa [tabI] using hi)
    rw [c8, Nat.mul_one] at h1
    have hi' : i < xs.length := by rw [hn]; simpa [tabI] using hi
    rw [List.getElem?_eq_getElem hi'] at h1
    obtain ⟨k, e1, e2, _⟩ := DataW.trod_int Tryz.underlying5 h1
    exact ⟨k, e1, [], by rw [List.getElem?_eq_getElem hi', e2]⟩
  intro p hp
  simp only [tabG, List.mem_singleton] at hp
  subst hp
  simp only [tab, RV]
  refine ⟨0, 0, [.agg cs0], ?_, ?_, fun h => h, ?_, ?_, rfl⟩
  · simp only [RVl]
    refine ⟨_, [], rfl, ?_, rfl⟩
    simp only [RV]
    refine ⟨cs0, rfl, ?_, ?_⟩
    · rw [hcs]
      exact RVl_u8 tabI (by decide)
    · rw [hcs]
      simp [tabI, Value.oneCell']
  · simp [Value.cells, ← Array.length_toList, hcs, tabI]
  · have := World.var?_cell hg0 hv0 0
    rw [← Array.getElem?_toList, hcs] at this
    show 0 < W.heap.size
    apply Classical.byContradiction
    intro hn
    have h0 : W.heap[0]? = none := by rw [Array.getElem?_eq_none_iff]; omega
    unfold World.cell? at this
    simp [h0, tabI] at this
  · intro j v hj
    have := World.var?_cell hg0 hv0 j
    simp only [flat, List.flatMap_cons, List.flatMap_nil, List.append_nil, Value.cells] at hj
    rw [← Array.getElem?_toList] at this
    rw [hj] at this
    show W.cell? _ = _
    simpa using this
end Go.Proofs.YtpijmanjjhpkiaaGreatDoor

namespace Go.Proofs.YtpijmanjjhpkiaaGreatDoor
open Go.AM Go.RowKit
set_option maxRecDepth 100000

/-! The layer site: what its values are, and the contracts of its small functions. -/
structure Grp where
  kind : Int
  min : Int
  yellow : Int
structure Pha where
  set : Nat
  min : Int
  max : Int
  gap : Int
  always : Bool
structure Eye where
  phase : Int
  on : Int
  off : Int
  turns : Int
structure Pln where
  cycle : Int
  offset : Int
  splits : List Int
structure Sit where
  id : Int
  groups : List Grp
  apart : List Nat
  between : List (List Int)
  phases : List Pha
  eyes : List Eye
  watch : Int
  feed : Int
  heal : Int
  low : Int
  high : Int
  plans : List Pln

def ints (l : List Int) : List V := l.map fun n => .int .i64 n
theorem ints_len (l : List Int) : (ints l).length = l.length := by simp [ints]
theorem nth_ints {l : List Int} {k : Nat} (h : k < l.length) : nth (ints l) k = .int .i64 l[k] := by rw [ints, nth_map h]
def grpV (g : Grp) : V := .agg [.int .u8 g.kind, .int .i64 g.min, .int .i64 g.yellow]
def phaV (p : Pha) : V := .agg [.int .u32 p.set, .int .i64 p.min, .int .i64 p.max, .int .i64 p.gap, .bool p.always]
def eyeV (e : Eye) : V := .agg [.int .i64 e.phase, .int .i64 e.on, .int .i64 e.off, .int .i64 e.turns]
def plnV (p : Pln) : V := .agg [.int .i64 p.cycle, .int .i64 p.offset, .sl 1 (ints p.splits)]
def sets (l : List Nat) : List V := l.map fun (n : Nat) => .int .u32 (n : Int)
def rows (l : List (List Int)) : List V := l.map fun r => .sl 1 (ints r)
def sitV (s : Sit) : V := .agg [.int .i64 s.id, .sl 3 (s.groups.map grpV), .sl 1 (sets s.apart), .sl 1 (rows s.between), .sl 5 (s.phases.map phaV), .sl 4 (s.eyes.map eyeV), .int .i64 s.watch, .int .i64 s.feed, .int .i64 s.heal, .int .i64 s.low, .int .i64 s.high, .sl 3 (s.plans.map plnV)]

def inN (x a b : Int) : Bool := decide (a ≤ x) && decide (x ≤ b)
theorem in_spec (x a b : Int) : FnD Tryz.prog 96 [.int .i64 x, .int .i64 a, .int .i64 b] (.bool (inN x a b)) := by
  refine fnD_of mixed Tryz.func96 rfl rfl (by simp [Tryz.ntmps96]) fun hwf E => ?_
  simp (disch := omega) [Tryz.ntmps96, go_sem]
  rfl

theorem ints_pure (l : List Int) : pures (ints l) := by induction l with | nil => simp [ints, pures] | cons x l ih => simp only [ints, List.map_cons, pures, V.pure] at ih ⊢; exact ⟨trivial, ih⟩

theorem ticks_spec (l : List Int) : FnD Tryz.prog 140 [.sl 1 (ints l)] (.bool (l.all fun x => inN x 1 1048576)) := by
  refine fnD_of mixed Tryz.func140 rfl rfl (by simp [Tryz.ntmps140]) fun hwf E => ?_
  simp (disch := omega) [go_sem, ints_len] at hwf
  simp (disch := omega) [Tryz.ntmps140, go_sem, ints_len]
  refine awz_loop mixed (fun k : Nat => ⟨[(7, .int .i64 k), (6, .int .i64 l.length), (5, .sl 1 (ints l)), (2, .bool false)], [], 1024, [], 15, 0, []⟩)
    (fun k => k ≤ l.length ∧ ∀ j (h : j < l.length), j < k → inN l[j] 1 1048576 = true) (fun k => l.length - k) 0 (by simp) ?_ ?_
  · refine Le.mk [] [] ⟨rfl, rfl, rfl⟩ ?_ ?_ ?_ <;> simp [go_sem, ints_pure]
  · rintro k ⟨hk, hno⟩
    simp (disch := omega) [go_sem]
    refine br_of (fun h => ?_) (fun h => ?_) <;> simp at h
    · simp (disch := omega) [go_sem, ints_len, nth_ints, h]
      refine callK_bool (in_spec l[k] 1 1048576) [] (by simp [go_sem]) (fun h1 => ?_) (fun h1 => ?_)
      · simp (disch := omega) [go_sem]
        refine round_of (k + 1) ⟨by omega, fun j h3 hj => ?_⟩ (by omega) (Le.mk [] [] ⟨rfl, rfl, rfl⟩ ?_ ?_ ?_)
        · by_cases e : j = k
          · subst e; exact h1
          · exact hno j h3 (by omega)
        all_goals simp (disch := omega) [go_sem, ints_pure]
      · simp (disch := omega) [go_sem]
        exact ⟨l[k], List.getElem_mem h, h1⟩
    · simp (disch := omega) [go_sem]
      intro x hx
      obtain ⟨j, hj, rfl⟩ := List.getElem_of_mem hx
      exact hno j hj (by omega)

/-! The layer site: eyes. -/
theorem pures_map {α : Type} (f : α → V) (h : ∀ x, (f x).pure) : ∀ (l : List α), pures (l.map f)
  | [] => by simp [pures]
  | x :: l => by simp only [List.map_cons, pures]; exact ⟨h x, pures_map f h l⟩
theorem grps_pure (l : List Grp) : pures (l.map grpV) := pures_map _ (fun g => by simp [grpV, go_sem]) l
theorem phas_pure (l : List Pha) : pures (l.map phaV) := pures_map _ (fun g => by simp [phaV, go_sem]) l
theorem eyes_pure (l : List Eye) : pures (l.map eyeV) := pures_map _ (fun g => by simp [eyeV, go_sem]) l
theorem plns_pure (l : List Pln) : pures (l.map plnV) := pures_map _ (fun g => by simp [plnV, go_sem, ints_pure]) l
theorem sets_pure (l : List Nat) : pures (sets l) := pures_map _ (fun g => by simp [go_sem]) l
theorem rows_pure (l : List (List Int)) : pures (rows l) := pures_map _ (fun g => by simp [go_sem, ints_pure]) l

def eyeOk (n : Nat) (e : Eye) : Bool := inN e.phase 0 ((n : Int) - 1) && (inN e.on 1 1048576 && inN e.off 1 1048576) && inN e.turns 1 64
theorem eyed_spec (s : Sit) : FnD Tryz.prog 100 [sitV s] (.bool (s.eyes.all (eyeOk s.phases.length))) := by
  have hpu := (⟨grps_pure s.groups, phas_pure s.phases, eyes_pure s.eyes, plns_pure s.plans, sets_pure s.apart, rows_pure s.between⟩ : _ ∧ _ ∧ _ ∧ _ ∧ _ ∧ _)
  obtain ⟨hp1, hp2, hp3, hp4, hp5, hp6⟩ := hpu
  unfold sitV
  refine fnD_of mixed Tryz.func100 rfl rfl (by simp [Tryz.ntmps100]) fun hwf E => ?_
  simp (disch := omega) [go_sem] at hwf
  simp (disch := omega) [Tryz.ntmps100, go_sem]
  refine awz_loop mixed (fun k : Nat => ⟨[(8, .int .i64 k), (7, .int .i64 s.eyes.length), (6, .sl 4 (s.eyes.map eyeV)), (1, .ptr 0 1 0 0), (2, .bool false)], [(0, ⟨.box, 75, 12, [sitV s]⟩)], 1024, [], 36, 0, []⟩)
    (fun k => k ≤ s.eyes.length ∧ ∀ j (h : j < s.eyes.length), j < k → eyeOk s.phases.length s.eyes[j] = true) (fun k => s.eyes.length - k) 0 (by simp) ?_ ?_
  · refine Le.mk [(0, some 0)] [0] ⟨rfl, rfl, rfl⟩ ?_ ?_ ?_ <;> simp [go_sem, sitV, hp1, hp2, hp3, hp4, hp5, hp6]
  · rintro k ⟨hk, hno⟩
    simp (disch := omega) [go_sem, sitV]
    refine br_of (fun h => ?_) (fun h => ?_) <;> simp at h
    · have he : nth (s.eyes.map eyeV) k = eyeV s.eyes[k] := nth_map h
      simp (disch := omega) [go_sem, h, he, eyeV, sitV]
      have hn : (inN s.eyes[k].phase 0 ((s.phases.length : Int) - 1) && (inN s.eyes[k].on 1 1048576 && inN s.eyes[k].off 1 1048576) && inN s.eyes[k].turns 1 64) = eyeOk s.phases.length s.eyes[k] := rfl
      refine callK_bool (in_spec s.eyes[k].phase 0 ((s.phases.length : Int) - 1)) [] (by simp [go_sem]) (fun h1 => ?_) (fun h1 => ?_)
      · simp (disch := omega) [go_sem]
        refine callK_bool (ticks_spec [s.eyes[k].on, s.eyes[k].off]) [1312] (by simp [go_sem, ints]) (fun h2 => ?_) (fun h2 => ?_)
        · simp at h2
          simp (disch := omega) [go_sem]
          refine callK_bool (in_spec s.eyes[k].turns 1 64) [] (by simp [go_sem]) (fun h3 => ?_) (fun h3 => ?_)
          · simp (disch := omega) [go_sem]
            refine round_of (k + 1) ⟨by omega, fun j h4 hj => ?_⟩ (by omega) (Le.mk [(0, some 0)] [0] ⟨rfl, rfl, rfl⟩ ?_ ?_ ?_)
            · by_cases e : j = k
              · subst e; rw [← hn]; simp [h1, h2, h3]
              · exact hno j h4 (by omega)
            all_goals simp [go_sem, sitV, hp1, hp2, hp3, hp4, hp5, hp6]
          · simp (disch := omega) [go_sem]
            exact ⟨s.eyes[k], List.getElem_mem h, by rw [← hn]; simp [h3]⟩
        · simp (disch := omega) [go_sem]
          exact ⟨s.eyes[k], List.getElem_mem h, by rw [← hn]; simp at h2; simp; intro _ a b; exact absurd b (by simp [h2 a])⟩
      · simp (disch := omega) [go_sem]
        exact ⟨s.eyes[k], List.getElem_mem h, by rw [← hn]; simp [h1]⟩
    · simp (disch := omega) [go_sem]
      intro x hx
      obtain ⟨j, hj, rfl⟩ := List.getElem_of_mem hx
      exact hno j hj (by omega)

/-! The layer site: shapes. -/
def rowOk (s : Sit) (i : Nat) : Prop := (s.between.getD i []).length = s.groups.length ∧ s.apart.getD i 0 < 2 ^ s.groups.length
instance (s : Sit) (i : Nat) : Decidable (rowOk s i) := by unfold rowOk; infer_instance
def Shaped (s : Sit) : Prop := (1 ≤ s.groups.length ∧ s.groups.length ≤ 16) ∧ s.apart.length = s.groups.length ∧ s.between.length = s.groups.length ∧ (1 ≤ s.phases.length ∧ s.phases.length ≤ 8) ∧ s.eyes.length ≤ 24 ∧ s.plans.length ≤ 8 ∧
  ∀ i, i < s.between.length → rowOk s i
instance (s : Sit) : Decidable (Shaped s) := by unfold Shaped; infer_instance
theorem sets_len (l : List Nat) : (sets l).length = l.length := by simp [sets]
theorem rows_len (l : List (List Int)) : (rows l).length = l.length := by simp [rows]
theorem nth_sets {l : List Nat} {k : Nat} (h : k < l.length) : nth (sets l) k = .int .u32 (l[k] : Int) := by rw [sets, nth_map h]
theorem nth_rows {l : List (List Int)} {k : Nat} (h : k < l.length) : nth (rows l) k = .sl 1 (ints l[k]) := by rw [rows, nth_map h]
theorem inN_iff {x a b : Int} : inN x a b = true ↔ a ≤ x ∧ x ≤ b := by simp [inN]

theorem shr_zero (a n : Nat) : ((a : Int).fdiv (2 ^ n) = 0) ↔ a < 2 ^ n := by
  rw [Int.fdiv_eq_ediv_of_nonneg _ (by exact_mod_cast Nat.zero_le (2 ^ n)), show ((2 : Int) ^ n) = ((2 ^ n : Nat) : Int) by simp, ← Int.natCast_ediv, Int.natCast_eq_zero, Nat.div_eq_zero_iff]
  have := Nat.two_pow_pos n
  omega
theorem shape_spec (s : Sit) : FnD Tryz.prog 97 [sitV s] (.bool (decide (Shaped s))) := by
  have hpu := (⟨grps_pure s.groups, phas_pure s.phases, eyes_pure s.eyes, plns_pure s.plans, sets_pure s.apart, rows_pure s.between⟩ : _ ∧ _ ∧ _ ∧ _ ∧ _ ∧ _)
  obtain ⟨hp1, hp2, hp3, hp4, hp5, hp6⟩ := hpu
  unfold sitV
  refine fnD_of mixed Tryz.func97 rfl rfl (by simp [Tryz.ntmps97]) fun hwf E => ?_
  simp (disch := omega) [go_sem] at hwf
  simp (disch := omega) [Tryz.ntmps97, go_sem, sets_len, rows_len]
  refine callK_bool (in_spec s.groups.length 1 16) [] (by simp [go_sem]) (fun h1 => ?_) (fun h1 => ?_)
  · rw [inN_iff] at h1
    simp (disch := omega) [go_sem, sets_len, rows_len]
    refine gbr_of (fun h2 => ?_) (fun h2 => ?_)
    · simp at h2
      simp (disch := omega) [go_sem, h2]
      refine callK_bool (in_spec s.phases.length 1 8) [] (by simp [go_sem]) (fun h3 => ?_) (fun h3 => ?_)
      · rw [inN_iff] at h3
        simp (disch := omega) [go_sem, sets_len, rows_len, h2]
        refine br_of (fun h4 => ?_) (fun h4 => ?_) <;> simp at h4
        · simp (disch := omega) [go_sem]
          rintro ⟨_, _, _, _, a, b, _⟩; omega
        · simp (disch := omega) [go_sem, sets_len, rows_len]
          have ha : s.apart.length = s.groups.length := by omega
          have hb : s.between.length = s.groups.length := by omega
          refine awz_loop mixed (fun k : Nat => ⟨[(48, .int .i64 k), (47, .int .i64 s.between.length), (46, .sl 1 (rows s.between)), (1, .ptr 0 1 0 0), (3, .int .i64 s.groups.length), (2, .bool false)], [(0, ⟨.box, 75, 12, [sitV s]⟩)], 2048, [], 68, 0, []⟩)
            (fun k => k ≤ s.between.length ∧ ∀ i, i < k → rowOk s i) (fun k => s.between.length - k) 0 ⟨by omega, fun i hi => by omega⟩ ?_ ?_
          · refine Le.mk [(0, some 0)] [0] ⟨rfl, rfl, rfl⟩ ?_ ?_ ?_ <;> simp [go_sem, sitV, hp1, hp2, hp3, hp4, hp5, hp6, hb]
          · rintro k ⟨hk, hno⟩
            simp (disch := omega) [go_sem, sitV, rows_len]
            refine br_of (fun h => ?_) (fun h => ?_) <;> simp at h
            · have hka : k < s.apart.length := by omega
              simp (disch := omega) [go_sem, h, nth_rows, sitV, rows_len, ints_len, sets_len, nth_sets, hka]
              have hz := shr_zero s.apart[k] s.groups.length
              have g1 : s.between.getD k [] = s.between[k] := by simp [h]
              have g2 : s.apart.getD k 0 = s.apart[k] := by simp [hka]
              refine br_of (fun h5 => ?_) (fun h5 => ?_)
              · simp (disch := omega) [go_sem]
                rintro ⟨_, _, _, _, _, _, hall⟩
                have := hall k h
                unfold rowOk at this
                rw [g1, g2] at this
                simp [hz, this.1, this.2] at h5
              · simp only [Bool.or_eq_false_iff, bne_eq_false_iff_eq, hz] at h5
                simp (disch := omega) [go_sem]
                refine round_of (k + 1) ⟨by omega, fun j hj => ?_⟩ (by omega) (Le.mk [(0, some 0)] [0] ⟨rfl, rfl, rfl⟩ ?_ ?_ ?_)
                · by_cases e : j = k
                  · subst e; unfold rowOk; rw [g1, g2]; exact ⟨by have h6 := h5.1; simp at h6; omega, h5.2⟩
                  · exact hno j (by omega)
                all_goals simp [go_sem, sitV, hp1, hp2, hp3, hp4, hp5, hp6]
            · simp (disch := omega) [go_sem]
              exact ⟨by omega, ha, hb, by omega, by omega, by omega, fun i hi => hno i (by omega)⟩
      · have h3' : ¬ (1 ≤ (s.phases.length : Int) ∧ (s.phases.length : Int) ≤ 8) := by rw [← inN_iff]; simp [h3]
        simp (disch := omega) [go_sem]
        rintro ⟨_, _, _, a, _⟩; omega
    · simp at h2
      simp (disch := omega) [go_sem, h2]
      refine ⟨by omega, by omega, ?_⟩
      rintro ⟨_, a, b, _⟩; omega
  · have h1' : ¬ (1 ≤ (s.groups.length : Int) ∧ (s.groups.length : Int) ≤ 16) := by rw [← inN_iff]; simp [h1]
    simp (disch := omega) [go_sem]
    rintro ⟨a, _⟩; omega

/-! The layer site: what lies between phases. -/
def bitsOf (s : Nat) : List Nat := (List.range 32).filter fun j => s.testBit j
theorem bitsOf_zero : bitsOf 0 = [] := by decide
theorem bitsOf_mem {s b : Nat} : b ∈ bitsOf s ↔ b < 32 ∧ s.testBit b = true := by simp [bitsOf]
theorem range_split (k : Nat) (hk : k < 32) : List.range 32 = List.range k ++ [k] ++ (List.range (31 - k)).map (k + 1 + ·) := by
  have : ∀ k : Fin 32, List.range 32 = List.range k.val ++ [k.val] ++ (List.range (31 - k.val)).map (k.val + 1 + ·) := by decide +kernel
  exact this ⟨k, hk⟩
theorem bitsOf_step {s : Nat} (h : s ≠ 0) (hs : s < 4294967296) : bitsOf s = lowN s :: bitsOf (withoutN s (lowN s)) := by
  obtain ⟨hk, h1, h2, -⟩ := low_ex s h hs
  generalize lowN s = k at *
  have hw := withoutN_testBit hs (k : Int)
  unfold bitsOf
  rw [range_split k hk]
  simp only [List.filter_append]
  have a1 : (List.range k).filter (fun j => s.testBit j) = [] := by
    rw [List.filter_eq_nil_iff]; intro j hj; simp [h2 j (by simpa using hj)]
  have a2 : (List.range k).filter (fun j => (withoutN s (k : Int)).testBit j) = [] := by
    rw [List.filter_eq_nil_iff]; intro j hj; simp [hw, h2 j (by simpa using hj)]
  have a3 : ([k] : List Nat).filter (fun j => (withoutN s (k : Int)).testBit j) = [] := by simp [hw]
  have a4 : ((List.range (31 - k)).map (k + 1 + ·)).filter (fun j => (withoutN s (k : Int)).testBit j) = ((List.range (31 - k)).map (k + 1 + ·)).filter (fun j => s.testBit j) := by
    apply List.filter_congr
    intro j hj
    simp only [List.mem_map, List.mem_range] at hj
    obtain ⟨i, _, rfl⟩ := hj
    rw [hw]
    rw [decide_eq_false (show ¬ ((k + 1 + i : Nat) : Int) = (k : Int) by omega)]; simp
  rw [a1, a2, a3, a4]
  simp [h1]

def maxI (m x : Int) : Int := if m < x then x else m
def most (row : List Int) (t : Nat) (n : Int) : Int := (bitsOf t).foldl (fun m b => maxI m (row.getD b 0)) n
theorem most_zero (row : List Int) (n : Int) : most row 0 n = n := by simp [most, bitsOf_zero]
theorem most_step {row : List Int} {t : Nat} {n : Int} (h : t ≠ 0) (ht : t < 4294967296) : most row t n = most row (withoutN t (lowN t)) (maxI n (row.getD (lowN t) 0)) := by
  unfold most; rw [bitsOf_step h ht]; rfl
def clearRow (s : Sit) (A B a : Nat) (n : Int) : Int := if A.testBit a = true then most (s.between.getD a []) (s.apart.getD a 0 &&& B) n else n
def clearK (s : Sit) (A B k : Nat) : Int := (List.range k).foldl (fun m a => clearRow s A B a m) 0
theorem clearK_succ (s : Sit) (A B k : Nat) : clearK s A B (k + 1) = clearRow s A B k (clearK s A B k) := by
  simp [clearK, List.range_succ]
def setAt (s : Sit) (i : Nat) : Nat := ((s.phases[i]?).map Pha.set).getD 0
def clearN (s : Sit) (i j : Nat) : Int := clearK s (setAt s i) (setAt s j) s.groups.length

theorem wf_phas : ∀ {l : List Pha}, wfs (l.map phaV) → ∀ p ∈ l, p.set < 4294967296
  | [], _, p, hp => by simp at hp
  | x :: l, h, p, hp => by
    simp only [List.map_cons, wfs] at h
    rcases List.mem_cons.1 hp with rfl | hp
    · have := h.1
      simp [phaV, go_sem] at this
      omega
    · exact wf_phas h.2 p hp

theorem clear_spec (s : Sit) (i j : Nat) (hS : Shaped s) (hi : i < s.phases.length) (hj : j < s.phases.length) : FnD Tryz.prog 145 [sitV s, .int .i64 i, .int .i64 j] (.int .i64 (clearN s i j)) tabG := by
  have hpu := (⟨grps_pure s.groups, phas_pure s.phases, eyes_pure s.eyes, plns_pure s.plans, sets_pure s.apart, rows_pure s.between⟩ : _ ∧ _ ∧ _ ∧ _ ∧ _ ∧ _)
  obtain ⟨hp1, hp2, hp3, hp4, hp5, hp6⟩ := hpu
  obtain ⟨hn, ha, hb, hph, -, -, hrow⟩ := hS
  unfold sitV
  refine fnD_of mixed Tryz.func145 rfl rfl (by simp [Tryz.ntmps145]) fun hwf E => ?_
  simp (disch := omega) [go_sem] at hwf
  have hws := wf_phas hwf.1.2.2.2.2.1.2
  have hA : setAt s i < 4294967296 := by simp only [setAt, List.getElem?_eq_getElem hi]; exact hws _ (List.getElem_mem hi)
  have hB : setAt s j < 4294967296 := by simp only [setAt, List.getElem?_eq_getElem hj]; exact hws _ (List.getElem_mem hj)
  have hpi : nth (s.phases.map phaV) i = phaV s.phases[i] := nth_map hi
  have hpj : nth (s.phases.map phaV) j = phaV s.phases[j] := nth_map hj
  have hsi : s.phases[i].set = setAt s i := by simp [setAt, hi]
  have hsj : s.phases[j].set = setAt s j := by simp [setAt, hj]
  simp (disch := omega) [Tryz.ntmps145, go_sem]
  unfold clearN
  generalize setAt s i = A at *
  generalize setAt s j = B at *
  refine awz_loop mixed (fun k : Nat => ⟨[(13, .int .i64 k), (12, .int .i64 s.groups.length), (6, .int .i64 (clearK s A B k)), (3, .ptr 0 1 0 0), (1, .int .i64 i), (2, .int .i64 j)], [(0, ⟨.box, 75, 12, [sitV s]⟩)], 1024, [], 56, 0, tabG⟩)
    (fun k => k ≤ s.groups.length) (fun k => s.groups.length - k) 0 (by simp) ?_ ?_
  · refine Le.mk [(0, some 0)] [0] ⟨rfl, rfl, rfl⟩ ?_ ?_ ?_ <;> simp [go_sem, sitV, hp1, hp2, hp3, hp4, hp5, hp6, clearK]
  · intro k hk
    simp (disch := omega) [go_sem, sitV]
    refine br_of (fun h => ?_) (fun h => ?_) <;> simp at h
    · simp (disch := omega) [go_sem, sitV, hpi, phaV, hi, hsi]
      refine callK_bool (has_spec A k hA) [] (by simp [go_sem]) (fun h1 => ?_) (fun h1 => ?_)
      · have hA1 : A.testBit k = true := by simpa [hasN] using h1
        have hka : k < s.apart.length := by omega
        have hkb : k < s.between.length := by omega
        have hro := hrow k hkb
        unfold rowOk at hro
        have g1 : s.between.getD k [] = s.between[k] := by simp [hkb]
        have g2 : s.apart.getD k 0 = s.apart[k] := by simp [hka]
        rw [g1, g2] at hro
        obtain ⟨hr1, hr2⟩ := hro
        have hr3 : s.apart[k] < 65536 := Nat.lt_of_lt_of_le hr2 (show 2 ^ s.groups.length ≤ 2 ^ 16 from Nat.pow_le_pow_right (by omega) hn.2)
        have hgoal : clearK s A B (k + 1) = most s.between[k] (s.apart[k] &&& B) (clearK s A B k) := by
          rw [clearK_succ]; unfold clearRow; rw [if_pos hA1, g1, g2]
        have hlt : s.apart[k] &&& B < 4294967296 := and_lt (by omega)
        have hbits : ∀ b, (s.apart[k] &&& B).testBit b = true → b < s.groups.length := by
          intro b hb
          rw [Nat.testBit_and] at hb
          apply Classical.byContradiction
          intro hnb
          have : s.apart[k].testBit b = false := Nat.testBit_lt_two_pow (Nat.lt_of_lt_of_le hr2 (Nat.pow_le_pow_right (by omega) (by omega)))
          simp [this] at hb
        simp (disch := omega) [go_sem, sitV, hpj, phaV, hj, hsj, nth_sets, hka, sets_len]
        refine ⟨.inl (by kernel_rfl), ?_⟩
        refine awz_loop mixed (fun q : Nat × Int => ⟨[(8, .int .u32 (q.1 : Int)), (6, .int .i64 q.2), (7, .int .i64 k), (13, .int .i64 k), (12, .int .i64 s.groups.length), (3, .ptr 0 1 0 0), (1, .int .i64 i), (2, .int .i64 j)], [(0, ⟨.box, 75, 12, [sitV s]⟩)], 2048, [], 56, 0, tabG⟩)
          (fun q => q.1 < 4294967296 ∧ (∀ b, q.1.testBit b = true → b < s.groups.length) ∧ most s.between[k] q.1 q.2 = clearK s A B (k + 1)) (fun q => (bitsOf q.1).length) (s.apart[k] &&& B, clearK s A B k) ⟨hlt, hbits, hgoal.symm⟩ ?_ ?_
        · refine Le.mk [(0, some 0)] [0] ⟨rfl, rfl, rfl⟩ ?_ ?_ ?_ <;> simp [go_sem, sitV, hp1, hp2, hp3, hp4, hp5, hp6]
        · rintro ⟨t, m⟩ ⟨ht, htb, htm⟩
          simp only at ht htb htm
          simp (disch := omega) [go_sem, sitV]
          refine br_of (fun h3 => ?_) (fun h3 => ?_) <;> simp at h3
          · obtain ⟨hk1, hk2, -, -⟩ := low_ex t h3 ht
            have hls := least_spec t ht
            rw [show leastN t = (lowN t : Int) by simp [leastN, h3]] at hls
            have hwo := without_spec t (lowN t) ht
            have hbl := htb _ hk2
            have hst := most_step (row := s.between[k]) (n := m) h3 ht
            have hlen := congrArg List.length (bitsOf_step h3 ht)
            generalize lowN t = b at *
            have hbr : b < s.between[k].length := by omega
            have g3 : s.between[k].getD b 0 = s.between[k][b] := by simp [hbr]
            simp (disch := omega) [go_sem]
            refine callK_data hls [] (by simp [go_sem]) (.inl rfl) (by simp [go_sem]) (fun _ => ?_) (by simp [tabG, go_sem])
            simp (disch := omega) [go_sem]
            refine callK_data hwo [] (by simp [go_sem]) (.inl rfl) (by simp [go_sem]) (fun _ => ?_)
            simp (disch := omega) [go_sem, sitV, nth_rows, hkb, rows_len, nth_ints, ints_len, hbr]
            refine round_of (withoutN t b, maxI m s.between[k][b]) ⟨withoutN_lt _ _, fun c hc => ?_, ?_⟩ ?_ (Le.mk [(0, some 0)] [0] ⟨rfl, rfl, rfl⟩ ?_ ?_ ?_)
            · rw [withoutN_testBit ht] at hc
              exact htb c (by simp at hc; exact hc.1)
            · rw [← htm, hst, g3]
            · simp at hlen ⊢; omega
            all_goals simp [go_sem, sitV, hp1, hp2, hp3, hp4, hp5, hp6, maxI]
          · subst h3
            rw [most_zero] at htm
            simp (disch := omega) [go_sem]
            refine round_of (k + 1) (by omega) (by omega) (Le.mk [(0, some 0)] [0] ⟨rfl, rfl, rfl⟩ ?_ ?_ ?_)
            all_goals simp [go_sem, sitV, hp1, hp2, hp3, hp4, hp5, hp6, htm]
      · have hA1 : A.testBit k = false := by simpa [hasN] using h1
        have hcs : clearK s A B (k + 1) = clearK s A B k := by rw [clearK_succ]; unfold clearRow; rw [if_neg (by simp [hA1])]
        simp (disch := omega) [go_sem]
        refine round_of (k + 1) (by omega) (by omega) (Le.mk [(0, some 0)] [0] ⟨rfl, rfl, rfl⟩ ?_ ?_ ?_)
        all_goals simp [go_sem, sitV, hp1, hp2, hp3, hp4, hp5, hp6, hcs]
    · have hkn : k = s.groups.length := by omega
      subst hkn
      simp (disch := omega) [go_sem]

/-! The layer site: what phases need, whether plans fit. -/
def minAt (s : Sit) (i : Nat) : Int := ((s.phases[i]?).map Pha.min).getD 0
def needsN (s : Sit) (i : Nat) : Int := minAt s i + clearN s i ((i + 1) % s.phases.length)
theorem needs_spec (s : Sit) (i : Nat) (hS : Shaped s) (hi : i < s.phases.length) (hw : 0 ≤ needsN s i ∧ needsN s i ≤ 4294967296) : FnD Tryz.prog 103 [sitV s, .int .i64 i] (.int .i64 (needsN s i)) tabG := by
  have hpu := (⟨grps_pure s.groups, phas_pure s.phases, eyes_pure s.eyes, plns_pure s.plans, sets_pure s.apart, rows_pure s.between⟩ : _ ∧ _ ∧ _ ∧ _ ∧ _ ∧ _)
  obtain ⟨hp1, hp2, hp3, hp4, hp5, hp6⟩ := hpu
  have hc := clear_spec s i ((i + 1) % s.phases.length) hS hi (Nat.mod_lt _ (by omega))
  obtain ⟨hn, ha, hb, hph, -, -, hrow⟩ := hS
  have hpi : nth (s.phases.map phaV) i = phaV s.phases[i] := nth_map hi
  have hmi : s.phases[i].min = minAt s i := by simp [minAt, hi]
  have hsv : sitV s = .agg [.int .i64 s.id, .sl 3 (s.groups.map grpV), .sl 1 (sets s.apart), .sl 1 (rows s.between), .sl 5 (s.phases.map phaV), .sl 4 (s.eyes.map eyeV), .int .i64 s.watch, .int .i64 s.feed, .int .i64 s.heal, .int .i64 s.low, .int .i64 s.high, .sl 3 (s.plans.map plnV)] := rfl
  rw [hsv] at hc ⊢
  refine fnD_of mixed Tryz.func103 rfl rfl (by simp [Tryz.ntmps103]) fun hwf E => ?_
  simp (disch := omega) [go_sem] at hwf
  have hmod : ((i : Int) + 1).tmod (s.phases.length : Int) = (((i + 1) % s.phases.length : Nat) : Int) := by
    rw [Int.tmod_eq_emod_of_nonneg (by omega)]; rfl
  have hph0 : ¬ s.phases.length = 0 := by omega
  simp (disch := omega) [Tryz.ntmps103, go_sem, hpi, phaV, hi, hmi, hmod, hph0]
  refine callK_data hc [] (by simp [go_sem, hp1, hp2, hp3, hp4, hp5, hp6]) (.inl rfl) (by simp [go_sem]) (fun _ => ?_) (by simp [tabG, go_sem])
  have hne : needsN s i = minAt s i + clearN s i ((i + 1) % s.phases.length) := rfl
  rw [hne] at hw ⊢
  simp (disch := omega) [go_sem]
  exact .inl (by kernel_rfl)

def leftK (p : Pln) (k : Nat) : Int := p.cycle - (p.splits.take k).sum
theorem leftK_succ (p : Pln) (k : Nat) (h : k < p.splits.length) : leftK p (k + 1) = leftK p k - p.splits[k] := by
  unfold leftK
  rw [List.take_succ_eq_append_getElem h, List.sum_append]; simp; omega
def fitAt (s : Sit) (p : Pln) (i : Nat) : Prop := needsN s i ≤ p.splits.getD i 0 ∧ p.splits.getD i 0 ≤ leftK p i
instance (s : Sit) (p : Pln) (i : Nat) : Decidable (fitAt s p i) := by unfold fitAt; infer_instance
def Fits (s : Sit) (p : Pln) : Prop := (s.low ≤ p.cycle ∧ p.cycle ≤ s.high) ∧ (0 ≤ p.offset ∧ p.offset ≤ p.cycle - 1) ∧ p.splits.length = s.phases.length ∧ (∀ i, i < p.splits.length → fitAt s p i) ∧ leftK p p.splits.length = 0
instance (s : Sit) (p : Pln) : Decidable (Fits s p) := by unfold Fits; infer_instance

/-- What the checks ahead tell of what phases need. -/
def NeedsOk (s : Sit) : Prop := ∀ i, i < s.phases.length → 0 ≤ needsN s i ∧ needsN s i ≤ 4294967296
theorem fits_spec (s : Sit) (p : Pln) (hS : Shaped s) (hN : NeedsOk s) (hL : 0 ≤ s.low ∧ s.high ≤ 1048576) : FnD Tryz.prog 48 [sitV s, plnV p] (.bool (decide (Fits s p))) tabG := by
  have hpu := (⟨grps_pure s.groups, phas_pure s.phases, eyes_pure s.eyes, plns_pure s.plans, sets_pure s.apart, rows_pure s.between⟩ : _ ∧ _ ∧ _ ∧ _ ∧ _ ∧ _)
  obtain ⟨hp1, hp2, hp3, hp4, hp5, hp6⟩ := hpu
  have hne := fun i hi => needs_spec s i hS hi (hN i hi)
  have hsv : sitV s = .agg [.int .i64 s.id, .sl 3 (s.groups.map grpV), .sl 1 (sets s.apart), .sl 1 (rows s.between), .sl 5 (s.phases.map phaV), .sl 4 (s.eyes.map eyeV), .int .i64 s.watch, .int .i64 s.feed, .int .i64 s.heal, .int .i64 s.low, .int .i64 s.high, .sl 3 (s.plans.map plnV)] := rfl
  have hpv : plnV p = .agg [.int .i64 p.cycle, .int .i64 p.offset, .sl 1 (ints p.splits)] := rfl
  rw [hsv] at hne ⊢
  rw [hpv]
  refine fnD_of mixed Tryz.func48 rfl rfl (by simp [Tryz.ntmps48]) fun hwf E => ?_
  simp (disch := omega) [go_sem, ints_len] at hwf
  simp (disch := omega) [Tryz.ntmps48, go_sem]
  refine callK_bool (in_spec p.cycle s.low s.high) [] (by simp [go_sem]) (fun h1 => ?_) (fun h1 => ?_)
  · rw [inN_iff] at h1
    simp (disch := omega) [go_sem]
    refine callK_bool (in_spec p.offset 0 (p.cycle - 1)) [] (by simp [go_sem]) (fun h2 => ?_) (fun h2 => ?_)
    · rw [inN_iff] at h2
      simp (disch := omega) [go_sem, ints_len]
      refine br_of (fun h3 => ?_) (fun h3 => ?_) <;> simp at h3
      · simp (disch := omega) [go_sem]
        rintro ⟨_, _, a, _⟩; omega
      · have hl : p.splits.length = s.phases.length := by omega
        simp (disch := omega) [go_sem, ints_len]
        have hz : leftK p 0 = p.cycle := by simp [leftK]
        refine awz_loop mixed (fun k : Nat => ⟨[(39, .int .i64 k), (38, .int .i64 p.splits.length), (37, .sl 1 (ints p.splits)), (5, .int .i64 (leftK p k)), (2, .ptr 0 1 0 0), (4, .bool false)], [(0, ⟨.box, 75, 12, [sitV s]⟩)], 2048, [], 57, 0, tabG⟩)
          (fun k => k ≤ p.splits.length ∧ (0 ≤ leftK p k ∧ leftK p k ≤ 1048576) ∧ ∀ i, i < k → fitAt s p i) (fun k => p.splits.length - k) 0 ⟨by omega, by rw [hz]; omega, fun i hi => by omega⟩ ?_ ?_
        · refine Le.mk [(0, some 0)] [0] ⟨rfl, rfl, rfl⟩ ?_ ?_ ?_ <;> simp [go_sem, sitV, hp1, hp2, hp3, hp4, hp5, hp6, ints_pure, hz]
        · rintro k ⟨hk, hlk, hno⟩
          simp (disch := omega) [go_sem]
          refine br_of (fun h => ?_) (fun h => ?_) <;> simp at h
          · have hnk := hN k (by omega)
            have g1 : p.splits.getD k 0 = p.splits[k] := by simp [h]
            have hfa : fitAt s p k ↔ inN p.splits[k] (needsN s k) (leftK p k) = true := by unfold fitAt; rw [g1, inN_iff]
            have hls := leftK_succ p k h
            simp (disch := omega) [go_sem, ints_len, nth_ints, h, sitV]
            refine callK_data (hne k (by omega)) [] (by simp [go_sem, hp1, hp2, hp3, hp4, hp5, hp6]) (.inl rfl) (by simp [go_sem]) (fun _ => ?_) (by simp [tabG, go_sem])
            simp (disch := omega) [go_sem]
            refine callK_bool (in_spec p.splits[k] (needsN s k) (leftK p k)) [] (by simp [go_sem]) (fun h4 => ?_) (fun h4 => ?_)
            · have h5 := inN_iff.1 h4
              simp (disch := omega) [go_sem]
              refine round_of (k + 1) ⟨by omega, by omega, fun j hj => ?_⟩ (by omega) (Le.mk [(0, some 0)] [0] ⟨rfl, rfl, rfl⟩ ?_ ?_ ?_)
              · by_cases e : j = k
                · subst e; exact hfa.2 h4
                · exact hno j (by omega)
              all_goals simp [go_sem, sitV, hp1, hp2, hp3, hp4, hp5, hp6, ints_pure, hls]
            · simp (disch := omega) [go_sem]
              rintro ⟨_, _, _, hall, _⟩
              have := hfa.1 (hall k h)
              rw [h4] at this; cases this
          · have hkl : k = p.splits.length := by omega
            subst hkl
            simp (disch := omega) [go_sem]
            rw [Bool.eq_iff_iff]
            simp
            constructor
            · intro h5; exact ⟨h1, h2, hl, hno, h5⟩
            · rintro ⟨_, _, _, _, h5⟩; exact h5
    · simp (disch := omega) [go_sem]
      rintro ⟨_, a, _⟩
      rw [← inN_iff] at a; simp [h2] at a
  · simp (disch := omega) [go_sem]
    rintro ⟨a, _⟩
    rw [← inN_iff] at a; simp [h1] at a

/-! The layer site: plans and times. -/
theorem planned_spec (s : Sit) (hS : Shaped s) (hN : NeedsOk s) (hL : 0 ≤ s.low ∧ s.high ≤ 1048576) : FnD Tryz.prog 102 [sitV s] (.bool (s.plans.all fun p => decide (Fits s p))) tabG := by
  have hpu := (⟨grps_pure s.groups, phas_pure s.phases, eyes_pure s.eyes, plns_pure s.plans, sets_pure s.apart, rows_pure s.between⟩ : _ ∧ _ ∧ _ ∧ _ ∧ _ ∧ _)
  obtain ⟨hp1, hp2, hp3, hp4, hp5, hp6⟩ := hpu
  have hf := fun p => fits_spec s p hS hN hL
  have hsv : sitV s = .agg [.int .i64 s.id, .sl 3 (s.groups.map grpV), .sl 1 (sets s.apart), .sl 1 (rows s.between), .sl 5 (s.phases.map phaV), .sl 4 (s.eyes.map eyeV), .int .i64 s.watch, .int .i64 s.feed, .int .i64 s.heal, .int .i64 s.low, .int .i64 s.high, .sl 3 (s.plans.map plnV)] := rfl
  rw [hsv] at hf ⊢
  refine fnD_of mixed Tryz.func102 rfl rfl (by simp [Tryz.ntmps102]) fun hwf E => ?_
  simp (disch := omega) [go_sem] at hwf
  simp (disch := omega) [Tryz.ntmps102, go_sem]
  refine awz_loop mixed (fun k : Nat => ⟨[(8, .int .i64 k), (7, .int .i64 s.plans.length), (6, .sl 3 (s.plans.map plnV)), (1, .ptr 0 1 0 0), (2, .bool false)], [(0, ⟨.box, 75, 12, [sitV s]⟩)], 1024, [], 17, 0, tabG⟩)
    (fun k => k ≤ s.plans.length ∧ ∀ j (h : j < s.plans.length), j < k → Fits s s.plans[j]) (fun k => s.plans.length - k) 0 (by simp) ?_ ?_
  · refine Le.mk [(0, some 0)] [0] ⟨rfl, rfl, rfl⟩ ?_ ?_ ?_ <;> simp [go_sem, sitV, hp1, hp2, hp3, hp4, hp5, hp6]
  · rintro k ⟨hk, hno⟩
    simp (disch := omega) [go_sem, sitV]
    refine br_of (fun h => ?_) (fun h => ?_) <;> simp at h
    · have he : nth (s.plans.map plnV) k = plnV s.plans[k] := nth_map h
      simp (disch := omega) [go_sem, h, he, plnV, sitV]
      refine callK_bool (hf s.plans[k]) [] (by simp [go_sem, plnV, hp1, hp2, hp3, hp4, hp5, hp6, ints_pure]) (fun h1 => ?_) (fun h1 => ?_) (by simp [tabG, go_sem])
      · simp at h1
        simp (disch := omega) [go_sem]
        refine round_of (k + 1) ⟨by omega, fun j h4 hj => ?_⟩ (by omega) (Le.mk [(0, some 0)] [0] ⟨rfl, rfl, rfl⟩ ?_ ?_ ?_)
        · by_cases e : j = k
          · subst e; exact h1
          · exact hno j h4 (by omega)
        all_goals simp [go_sem, sitV, hp1, hp2, hp3, hp4, hp5, hp6]
      · simp at h1
        simp (disch := omega) [go_sem]
        exact ⟨s.plans[k], List.getElem_mem h, h1⟩
    · simp (disch := omega) [go_sem]
      intro x hx
      obtain ⟨j, hj, rfl⟩ := List.getElem_of_mem hx
      exact hno j hj (by omega)

def roundK (s : Sit) (k : Nat) : Int := ((List.range k).map (needsN s)).sum
theorem roundK_succ (s : Sit) (k : Nat) : roundK s (k + 1) = roundK s k + needsN s k := by
  unfold roundK
  rw [List.range_succ, List.map_append, List.sum_append]; simp
theorem roundK_bound (s : Sit) (hN : NeedsOk s) : ∀ k, k ≤ s.phases.length → 0 ≤ roundK s k ∧ roundK s k ≤ 4294967296 * k
  | 0, _ => by simp [roundK]
  | k + 1, h => by
    have := roundK_bound s hN k (by omega)
    have := hN k (by omega)
    rw [roundK_succ]; omega
def timedN (s : Sit) : Bool := [s.watch, s.feed, s.heal, s.low, s.high].all (fun x => inN x 1 1048576) && decide (roundK s s.phases.length ≤ s.low) && decide (s.low ≤ s.high)
theorem timed_spec (s : Sit) (hS : Shaped s) (hN : NeedsOk s) : FnD Tryz.prog 101 [sitV s] (.bool (timedN s)) tabG := by
  have hpu := (⟨grps_pure s.groups, phas_pure s.phases, eyes_pure s.eyes, plns_pure s.plans, sets_pure s.apart, rows_pure s.between⟩ : _ ∧ _ ∧ _ ∧ _ ∧ _ ∧ _)
  obtain ⟨hp1, hp2, hp3, hp4, hp5, hp6⟩ := hpu
  have hne := fun i hi => needs_spec s i hS hi (hN i hi)
  have hph8 : s.phases.length ≤ 8 := hS.2.2.2.1.2
  have hsv : sitV s = .agg [.int .i64 s.id, .sl 3 (s.groups.map grpV), .sl 1 (sets s.apart), .sl 1 (rows s.between), .sl 5 (s.phases.map phaV), .sl 4 (s.eyes.map eyeV), .int .i64 s.watch, .int .i64 s.feed, .int .i64 s.heal, .int .i64 s.low, .int .i64 s.high, .sl 3 (s.plans.map plnV)] := rfl
  rw [hsv] at hne ⊢
  refine fnD_of mixed Tryz.func101 rfl rfl (by simp [Tryz.ntmps101]) fun hwf E => ?_
  simp (disch := omega) [go_sem] at hwf
  simp (disch := omega) [Tryz.ntmps101, go_sem]
  refine awz_loop mixed (fun k : Nat => ⟨[(8, .int .i64 k), (7, .int .i64 s.phases.length), (3, .int .i64 (roundK s k)), (1, .ptr 0 1 0 0), (2, .bool false)], [(0, ⟨.box, 75, 12, [sitV s]⟩)], 1024, [], 42, 0, tabG⟩)
    (fun k => k ≤ s.phases.length) (fun k => s.phases.length - k) 0 (by simp) ?_ ?_
  · refine Le.mk [(0, some 0)] [0] ⟨rfl, rfl, rfl⟩ ?_ ?_ ?_ <;> simp [go_sem, sitV, hp1, hp2, hp3, hp4, hp5, hp6, roundK]
  · intro k hk
    have hb := roundK_bound s hN k hk
    simp (disch := omega) [go_sem, sitV]
    refine br_of (fun h => ?_) (fun h => ?_) <;> simp at h
    · have hnk := hN k h
      simp (disch := omega) [go_sem, sitV]
      refine callK_data (hne k h) [] (by simp [go_sem, hp1, hp2, hp3, hp4, hp5, hp6]) (.inl rfl) (by simp [go_sem]) (fun _ => ?_) (by simp [tabG, go_sem])
      simp (disch := omega) [go_sem]
      refine round_of (k + 1) (by omega) (by omega) (Le.mk [(0, some 0)] [0] ⟨rfl, rfl, rfl⟩ ?_ ?_ ?_)
      all_goals simp [go_sem, sitV, hp1, hp2, hp3, hp4, hp5, hp6, roundK_succ]
    · have hkl : k = s.phases.length := by omega
      subst hkl
      simp (disch := omega) [go_sem, sitV]
      refine callK_bool (ticks_spec [s.watch, s.feed, s.heal, s.low, s.high]) [1200] (by simp [go_sem, ints]) (fun h2 => ?_) (fun h2 => ?_)
      · simp (disch := omega) [go_sem, timedN, h2]
      · simp (disch := omega) [go_sem, timedN, h2]
end Go.Proofs.YtpijmanjjhpkiaaGreatDoor

namespace Go.Proofs.YtpijmanjjhpkiaaGreatDoor
open Go.AM Go.RowKit
set_option maxRecDepth 100000

/-! The layer site: groups, and what lies between them. -/
def grpOk (g : Grp) : Prop := (g.kind = 1 ∨ g.kind = 2) ∧ (1 ≤ g.min ∧ g.min ≤ 1048576) ∧ (1 ≤ g.yellow ∧ g.yellow ≤ 1048576)
def betw (s : Sit) (a b : Nat) : Int := (s.between.getD a []).getD b 0
def isAp (s : Sit) (a b : Nat) : Bool := (s.apart.getD a 0).testBit b
def yelAt (s : Sit) (a : Nat) : Int := ((s.groups[a]?).map Grp.yellow).getD 0
def cellOk (s : Sit) (a b : Nat) : Prop := isAp s a b = isAp s b a ∧ (isAp s a b = true → a ≠ b ∧ yelAt s a ≤ betw s a b ∧ betw s a b ≤ 1048576) ∧ (isAp s a b = false → betw s a b = 0)
def lineOk (s : Sit) (a : Nat) : Prop := (∀ h : a < s.groups.length, grpOk s.groups[a]) ∧ ∀ b, b < s.groups.length → cellOk s a b
def ApartOk (s : Sit) : Prop := ∀ a, a < s.groups.length → lineOk s a
noncomputable instance (s : Sit) : Decidable (ApartOk s) := Classical.propDecidable _

theorem hasNat_spec (t b : Nat) (ht : t < 4294967296) : FnD Tryz.prog 141 [.int .u32 t, .int .i64 b] (.bool (t.testBit b)) := by
  have h := has_spec t b ht
  rwa [show hasN t b = t.testBit b by simp [hasN]] at h

set_option maxHeartbeats 1000000 in
theorem apart_spec (s : Sit) (hS : Shaped s) : FnD Tryz.prog 98 [sitV s] (.bool (decide (ApartOk s))) := by
  have hpu := (⟨grps_pure s.groups, phas_pure s.phases, eyes_pure s.eyes, plns_pure s.plans, sets_pure s.apart, rows_pure s.between⟩ : _ ∧ _ ∧ _ ∧ _ ∧ _ ∧ _)
  obtain ⟨hp1, hp2, hp3, hp4, hp5, hp6⟩ := hpu
  obtain ⟨hn, ha, hb, hph, -, -, hrow⟩ := hS
  unfold sitV
  refine fnD_of mixed Tryz.func98 rfl rfl (by simp [Tryz.ntmps98]) fun hwf E => ?_
  simp (disch := omega) [go_sem] at hwf
  simp (disch := omega) [Tryz.ntmps98, go_sem]
  refine awz_loop mixed (fun k : Nat => ⟨[(11, .int .i64 k), (10, .int .i64 s.groups.length), (9, .sl 3 (s.groups.map grpV)), (1, .ptr 0 1 0 0), (2, .bool false)], [(0, ⟨.box, 75, 12, [sitV s]⟩)], 1024, [], 83, 0, []⟩)
    (fun k => k ≤ s.groups.length ∧ ∀ a, a < k → lineOk s a) (fun k => s.groups.length - k) 0 ⟨by omega, fun a ha => by omega⟩ ?_ ?_
  · refine Le.mk [(0, some 0)] [0] ⟨rfl, rfl, rfl⟩ ?_ ?_ ?_ <;> simp [go_sem, sitV, hp1, hp2, hp3, hp4, hp5, hp6]
  · rintro k ⟨hk, hno⟩
    simp (disch := omega) [go_sem, sitV]
    refine br_of (fun h => ?_) (fun h => ?_) <;> simp at h
    · have hg : nth (s.groups.map grpV) k = grpV s.groups[k] := nth_map h
      have bad : ¬ grpOk s.groups[k] → ¬ ApartOk s := fun hb hA => hb ((hA k h).1 h)
      have hka : k < s.apart.length := by omega
      have hkb : k < s.between.length := by omega
      have hap : ∀ a (h : a < s.apart.length), s.apart[a] < 4294967296 := fun a h => by
        have h2 := (hrow a (by omega)).2
        rw [show s.apart.getD a 0 = s.apart[a] by simp [h]] at h2
        have h3 : 2 ^ s.groups.length ≤ 2 ^ 16 := Nat.pow_le_pow_right (by omega) hn.2
        omega
      have hrl : s.between[k].length = s.groups.length := by
        have h2 := (hrow k hkb).1
        rwa [show s.between.getD k [] = s.between[k] by simp [hkb]] at h2
      have hy : s.groups[k].yellow = yelAt s k := by simp [yelAt, h]
      have pure6 := (⟨hp1, hp2, hp3, hp4, hp5, hp6⟩ : _ ∧ _ ∧ _ ∧ _ ∧ _ ∧ _)
      by_cases hkd : s.groups[k].kind = 1 ∨ s.groups[k].kind = 2
      · have tail : ∀ kd : Int, (kd = 1 ∨ kd = 2) → s.groups[k].kind = kd → True := fun _ _ _ => trivial
        rcases hkd with e | e
        all_goals
          simp (disch := omega) [go_sem, h, hg, grpV, sitV, e]
          refine callK_bool (ticks_spec [s.groups[k].min, s.groups[k].yellow]) [1344] (by simp [go_sem, ints]) (fun h2 => ?_) (fun h2 => ?_)
          · have hgo : grpOk s.groups[k] := ⟨by omega, by simp [inN] at h2; omega, by simp [inN] at h2; omega⟩
            have hyb := hgo.2.2
            rw [hy] at hyb
            simp (disch := omega) [go_sem, sitV, nth_rows, rows_len, hkb, ints_len, hrl, hy]
            refine awz_loop mixed (fun m : Nat => ⟨[(39, .int .i64 m), (38, .int .i64 s.groups.length), (37, .sl 1 (ints s.between[k])), (3, .int .i64 k), (4, .ptr 32 1 0 0), (11, .int .i64 k), (10, .int .i64 s.groups.length), (9, .sl 3 (s.groups.map grpV)), (1, .ptr 0 1 0 0), (2, .bool false)],
                [(0, ⟨.box, 75, 12, [sitV s]⟩), (32, ⟨.box, 132, 3, [grpV s.groups[k]]⟩)], 4096, [], 83, 0, []⟩)
              (fun m => m ≤ s.groups.length ∧ ∀ b, b < m → cellOk s k b) (fun m => s.groups.length - m) 0 ⟨by omega, fun b hb => by omega⟩ ?_ ?_
            · refine Le.mk [(0, some 0), (32, some 1088)] [0, 1088] ⟨rfl, rfl, rfl⟩ ?_ ?_ ?_ <;> simp [go_sem, sitV, grpV, hp1, hp2, hp3, hp4, hp5, hp6, ints_pure, e, hy]
            · rintro m ⟨hm, hmo⟩
              simp (disch := omega) [go_sem, sitV]
              refine br_of (fun h3 => ?_) (fun h3 => ?_) <;> simp at h3
              · have hma : m < s.apart.length := by omega
                have hmr : m < s.between[k].length := by omega
                have i1 : s.apart[k].testBit m = isAp s k m := by simp [isAp, hka]
                have i2 : s.apart[m].testBit k = isAp s m k := by simp [isAp, hma]
                have i3 : s.between[k][m] = betw s k m := by simp [betw, hkb, hmr]
                have q1 := hasNat_spec s.apart[k] m (hap k hka)
                have q2 := hasNat_spec s.apart[m] k (hap m hma)
                rw [i1] at q1
                rw [i2] at q2
                have badc : ¬ cellOk s k m → ¬ ApartOk s := fun hb hA => hb ((hA k h).2 m h3)
                simp (disch := omega) [go_sem, sitV, grpV, nth_sets, sets_len, hka, nth_ints, ints_len, hmr, i3]
                refine callK_bool q1 [] (by simp [go_sem]) (fun j1 => ?_) (fun j1 => ?_)
                · simp (disch := omega) [go_sem, sitV, nth_sets, sets_len, hma]
                  refine callK_bool q2 [] (by simp [go_sem]) (fun j2 => ?_) (fun j2 => ?_)
                  · simp (disch := omega) [go_sem]
                    refine br_of (fun j3 => ?_) (fun j3 => ?_) <;> simp at j3
                    · simp (disch := omega) [go_sem, j3]
                      exact badc fun hc => (hc.2.1 j1).1 (by omega)
                    · simp (disch := omega) [go_sem, grpV, hy, j3]
                      refine callK_bool (in_spec (betw s k m) (yelAt s k) 1048576) [] (by simp [go_sem]) (fun j4 => ?_) (fun j4 => ?_)
                      · have j5 := inN_iff.1 j4
                        simp (disch := omega) [go_sem]
                        refine round_of (m + 1) ⟨by omega, fun b hb => ?_⟩ (by omega) (Le.mk [(0, some 0), (32, some 32)] [0, 32] ⟨rfl, rfl, rfl⟩ ?_ ?_ ?_)
                        · by_cases eb : b = m
                          · subst eb; exact ⟨by rw [j1, j2], fun _ => ⟨by omega, j5⟩, fun j6 => by rw [j1] at j6; cases j6⟩
                          · exact hmo b (by omega)
                        all_goals simp [go_sem, sitV, grpV, hp1, hp2, hp3, hp4, hp5, hp6, ints_pure, hy]
                      · simp (disch := omega) [go_sem]
                        exact badc fun hc => by have := (hc.2.1 j1).2; rw [← inN_iff, j4] at this; cases this
                  · simp (disch := omega) [go_sem]
                    exact badc fun hc => by have := hc.1; rw [j1, j2] at this; cases this
                · simp (disch := omega) [go_sem, sitV, nth_sets, sets_len, hma]
                  refine callK_bool q2 [] (by simp [go_sem]) (fun j2 => ?_) (fun j2 => ?_)
                  · simp (disch := omega) [go_sem]
                    exact badc fun hc => by have := hc.1; rw [j1, j2] at this; cases this
                  · simp (disch := omega) [go_sem]
                    refine br_of (fun j3 => ?_) (fun j3 => ?_) <;> simp at j3
                    · simp (disch := omega) [go_sem, j3]
                      exact badc fun hc => j3 (hc.2.2 j1)
                    · simp (disch := omega) [go_sem, j3]
                      refine round_of (m + 1) ⟨by omega, fun b hb => ?_⟩ (by omega) (Le.mk [(0, some 0), (32, some 32)] [0, 32] ⟨rfl, rfl, rfl⟩ ?_ ?_ ?_)
                      · by_cases eb : b = m
                        · subst eb; exact ⟨by rw [j1, j2], fun j6 => (by rw [j1] at j6; cases j6), fun _ => j3⟩
                        · exact hmo b (by omega)
                      all_goals simp [go_sem, sitV, grpV, hp1, hp2, hp3, hp4, hp5, hp6, ints_pure, hy]
              · simp (disch := omega) [go_sem]
                refine round_of (k + 1) ⟨by omega, fun b hb => ?_⟩ (by omega) (Le.mk [(0, some 0)] [0] ⟨rfl, rfl, rfl⟩ ?_ ?_ ?_)
                · by_cases eb : b = k
                  · subst eb; exact ⟨fun _ => hgo, fun c hc => hmo c (by omega)⟩
                  · exact hno b (by omega)
                all_goals simp [go_sem, sitV, grpV, hp1, hp2, hp3, hp4, hp5, hp6, ints_pure]
          · simp (disch := omega) [go_sem]
            apply bad
            rintro ⟨_, c1, c2⟩
            simp [inN] at h2; omega
      · have e1 : ¬ s.groups[k].kind = 1 := fun e => hkd (.inl e)
        have e2 : ¬ s.groups[k].kind = 2 := fun e => hkd (.inr e)
        have e1' : (s.groups[k].kind != 1) = true := by simp [e1]
        have e2' : (s.groups[k].kind != 2) = true := by simp [e2]
        simp (disch := omega) [go_sem, h, hg, grpV, sitV, e1', e2']
        exact bad fun hh => hkd hh.1
    · simp (disch := omega) [go_sem]
      exact fun a ha => hno a (by omega)

/-! The layer site: phases. -/
def minGrp (s : Sit) (a : Nat) : Int := ((s.groups[a]?).map Grp.min).getD 0
def grpIn (s : Sit) (p : Pha) (a : Nat) : Prop := minGrp s a ≤ p.min ∧ (s.apart.getD a 0 &&& p.set) = 0
def phaOk (s : Sit) (p : Pha) : Prop := p.set ≠ 0 ∧ p.set < 2 ^ s.groups.length ∧ ((1 ≤ p.min ∧ p.min ≤ 1048576) ∧ (1 ≤ p.max ∧ p.max ≤ 1048576) ∧ (1 ≤ p.gap ∧ p.gap ≤ 1048576)) ∧ p.min ≤ p.max ∧ ∀ a, p.set.testBit a = true → grpIn s p a
def allK (s : Sit) (k : Nat) : Nat := (s.phases.take k).foldl (fun t p => t ||| p.set) 0
theorem allK_succ (s : Sit) (k : Nat) (h : k < s.phases.length) : allK s (k + 1) = allK s k ||| s.phases[k].set := by
  unfold allK
  rw [List.take_succ_eq_append_getElem h, List.foldl_append]; rfl
def phaAt (s : Sit) (k : Nat) : Prop := ∀ h : k < s.phases.length, phaOk s s.phases[k]
def PhasedOk (s : Sit) : Prop := (∀ k, k < s.phases.length → phaAt s k) ∧ popN (allK s s.phases.length) = s.groups.length
noncomputable instance (s : Sit) : Decidable (PhasedOk s) := Classical.propDecidable _

set_option maxHeartbeats 1000000 in
theorem phased_spec (s : Sit) (hS : Shaped s) : FnD Tryz.prog 99 [sitV s] (.bool (decide (PhasedOk s))) tabG := by
  have hpu := (⟨grps_pure s.groups, phas_pure s.phases, eyes_pure s.eyes, plns_pure s.plans, sets_pure s.apart, rows_pure s.between⟩ : _ ∧ _ ∧ _ ∧ _ ∧ _ ∧ _)
  obtain ⟨hp1, hp2, hp3, hp4, hp5, hp6⟩ := hpu
  obtain ⟨hn, ha, hb, hph, -, -, hrow⟩ := hS
  unfold sitV
  refine fnD_of mixed Tryz.func99 rfl rfl (by simp [Tryz.ntmps99]) fun hwf E => ?_
  simp (disch := omega) [go_sem] at hwf
  have hws := wf_phas hwf.2.2.2.2.1.2
  simp (disch := omega) [Tryz.ntmps99, go_sem]
  refine awz_loop mixed (fun k : Nat => ⟨[(11, .int .i64 k), (10, .int .i64 s.phases.length), (9, .sl 5 (s.phases.map phaV)), (3, .int .u32 (allK s k : Int)), (1, .ptr 0 1 0 0), (2, .bool false)], [(0, ⟨.box, 75, 12, [sitV s]⟩)], 1024, [], 85, 0, tabG⟩)
    (fun k => k ≤ s.phases.length ∧ allK s k < 4294967296 ∧ ∀ i, i < k → phaAt s i) (fun k => s.phases.length - k) 0 ⟨by omega, by simp [allK], fun a ha => by omega⟩ ?_ ?_
  · refine Le.mk [(0, some 0)] [0] ⟨rfl, rfl, rfl⟩ ?_ ?_ ?_ <;> simp [go_sem, sitV, hp1, hp2, hp3, hp4, hp5, hp6, allK]
  · rintro k ⟨hk, hall, hno⟩
    simp (disch := omega) [go_sem, sitV]
    refine br_of (fun h => ?_) (fun h => ?_) <;> simp at h
    · have hg : nth (s.phases.map phaV) k = phaV s.phases[k] := nth_map h
      have hset := hws _ (List.getElem_mem h)
      have bad : ¬ phaOk s s.phases[k] → ¬ PhasedOk s := fun hb hA => hb (hA.1 k h h)
      have hz := shr_zero s.phases[k].set s.groups.length
      have hpv : phaV s.phases[k] = .agg [.int .u32 s.phases[k].set, .int .i64 s.phases[k].min, .int .i64 s.phases[k].max, .int .i64 s.phases[k].gap, .bool s.phases[k].always] := rfl
      have hsucc := allK_succ s k h
      obtain ⟨p, hpk⟩ : ∃ p, s.phases[k] = p := ⟨_, rfl⟩
      rw [hpk] at hset bad hz hpv hsucc hg
      by_cases c1 : p.set = 0
      · simp (disch := omega) [go_sem, h, hg, hpv, sitV, c1]
        exact bad fun hh => hh.1 c1
      · by_cases c2 : p.set < 2 ^ s.groups.length
        · simp (disch := omega) [go_sem, h, hg, hpv, sitV, c1, hz.2 c2]
          refine callK_bool (ticks_spec [p.min, p.max, p.gap]) [1408] (by simp [go_sem, ints]) (fun h2 => ?_) (fun h2 => ?_)
          · simp only [List.all_cons, List.all_nil, Bool.and_true, Bool.and_eq_true, inN_iff] at h2
            simp (disch := omega) [go_sem]
            refine br_of (fun h3 => ?_) (fun h3 => ?_) <;> simp at h3
            · simp (disch := omega) [go_sem]
              apply bad
              rintro ⟨_, _, _, c, _⟩; omega
            · have hor : allK s k ||| p.set < 4294967296 := or_lt hall hset
              simp (disch := omega) [go_sem, hpv]
              refine awz_loop mixed (fun t : Nat => ⟨[(6, .int .u32 (t : Int)), (11, .int .i64 k), (10, .int .i64 s.phases.length), (9, .sl 5 (s.phases.map phaV)), (3, .int .u32 ((allK s k ||| p.set : Nat) : Int)), (5, .ptr 32 1 0 0), (1, .ptr 0 1 0 0), (2, .bool false)],
                  [(0, ⟨.box, 75, 12, [sitV s]⟩), (32, ⟨.box, 135, 5, [phaV p]⟩)], 4096, [], 85, 0, tabG⟩)
                (fun t => t < 4294967296 ∧ (∀ a, t.testBit a = true → p.set.testBit a = true) ∧ ∀ a, p.set.testBit a = true → t.testBit a = false → grpIn s p a) (fun t => (bitsOf t).length) p.set ⟨hset, fun a ha => ha, fun a ha hb => by rw [ha] at hb; cases hb⟩ ?_ ?_
              · refine Le.mk [(0, some 0), (32, some 1072)] [0, 1072] ⟨rfl, rfl, rfl⟩ ?_ ?_ ?_ <;> simp [go_sem, sitV, hpv, hp1, hp2, hp3, hp4, hp5, hp6]
              · rintro t ⟨ht, hsub, hdone⟩
                simp (disch := omega) [go_sem, sitV]
                refine br_of (fun h4 => ?_) (fun h4 => ?_) <;> simp at h4
                · obtain ⟨hk1, hk2, -, -⟩ := low_ex t h4 ht
                  have hls := least_spec t ht
                  rw [show leastN t = (lowN t : Int) by simp [leastN, h4]] at hls
                  have hwo := without_spec t (lowN t) ht
                  have hlen := congrArg List.length (bitsOf_step h4 ht)
                  have hwt := withoutN_testBit ht (lowN t : Int)
                  have hpb := hsub _ hk2
                  generalize lowN t = b at *
                  have hbn : b < s.groups.length := by
                    apply Classical.byContradiction
                    intro hnb
                    have : p.set.testBit b = false := Nat.testBit_lt_two_pow (Nat.lt_of_lt_of_le c2 (Nat.pow_le_pow_right (by omega) (by omega)))
                    rw [this] at hpb; cases hpb
                  have hba : b < s.apart.length := by omega
                  have hgb : nth (s.groups.map grpV) b = grpV s.groups[b] := nth_map hbn
                  have hgm : s.groups[b].min = minGrp s b := by simp [minGrp, hbn]
                  have g2 : s.apart.getD b 0 = s.apart[b] := by simp [hba]
                  have hapb : s.apart[b] < 4294967296 := by
                    have h5 := (hrow b (by omega)).2
                    rw [g2] at h5
                    have h6 : 2 ^ s.groups.length ≤ 2 ^ 16 := Nat.pow_le_pow_right (by omega) hn.2
                    omega
                  have hgi : grpIn s p b ↔ minGrp s b ≤ p.min ∧ (s.apart[b] &&& p.set) = 0 := by unfold grpIn; rw [g2]
                  simp (disch := omega) [go_sem]
                  refine callK_data hls [] (by simp [go_sem]) (.inl rfl) (by simp [go_sem]) (fun _ => ?_) (by simp [tabG, go_sem])
                  simp (disch := omega) [go_sem]
                  refine callK_data hwo [] (by simp [go_sem]) (.inl rfl) (by simp [go_sem]) (fun _ => ?_)
                  simp (disch := omega) [go_sem, sitV, hgb, grpV, hbn, hgm, hpv, nth_sets, sets_len, hba]
                  refine ⟨.inl (by kernel_rfl), br_of (fun h5 => ?_) (fun h5 => ?_)⟩
                  · simp (disch := omega) [go_sem]
                    apply bad
                    rintro ⟨_, _, _, _, hall2⟩
                    have h6 := hgi.1 (hall2 b hpb)
                    simp at h5
                    rcases h5 with h5 | h5
                    · omega
                    · exact h5 (by simpa using h6.2)
                  · have h6 : grpIn s p b := by
                      rw [hgi]
                      simp at h5
                      exact ⟨by omega, by simpa using h5.2⟩
                    simp (disch := omega) [go_sem]
                    refine round_of (withoutN t b) ⟨withoutN_lt _ _, fun a ha => ?_, fun a ha hb => ?_⟩ ?_ (Le.mk [(0, some 0), (32, some 32)] [0, 32] ⟨rfl, rfl, rfl⟩ ?_ ?_ ?_)
                    · rw [hwt] at ha; simp at ha; exact hsub a ha.1
                    · rw [hwt] at hb
                      by_cases e : a = b
                      · subst e; exact h6
                      · refine hdone a ha ?_
                        rw [decide_eq_false (show ¬ (a : Int) = (b : Int) by omega)] at hb
                        simpa using hb
                    · simp at hlen ⊢; omega
                    all_goals simp [go_sem, sitV, hpv, hp1, hp2, hp3, hp4, hp5, hp6]
                · subst h4
                  simp (disch := omega) [go_sem]
                  refine round_of (k + 1) ⟨by omega, by rw [hsucc]; exact hor, fun i hi => ?_⟩ (by omega) (Le.mk [(0, some 0)] [0] ⟨rfl, rfl, rfl⟩ ?_ ?_ ?_)
                  · by_cases e : i = k
                    · subst e; intro h'; rw [hpk]; exact ⟨c1, c2, h2, h3, fun a ha => hdone a ha (by simp)⟩
                    · exact hno i (by omega)
                  all_goals simp [go_sem, sitV, hp1, hp2, hp3, hp4, hp5, hp6, hsucc]
          · simp (disch := omega) [go_sem]
            apply bad
            rintro ⟨_, _, ⟨b1, b2, b3⟩, _⟩
            simp [inN] at h2
            omega
        · have c2' : ((p.set : Int).fdiv (2 ^ s.groups.length) != 0) = true := by simp [hz, c2]
          simp (disch := omega) [go_sem, h, hg, hpv, sitV, c1, c2']
          exact bad fun hh => c2 hh.2.1
    · have hkl : k = s.phases.length := by omega
      subst hkl
      simp (disch := omega) [go_sem]
      refine callK_data (count_spec (allK s s.phases.length) hall) [] (by simp [go_sem]) (.inl rfl) (by simp [go_sem]) (fun _ => ?_)
      simp (disch := omega) [go_sem, sitV]
      refine ⟨.inl (by kernel_rfl), ?_⟩
      rw [Bool.eq_iff_iff]
      simp
      constructor
      · intro h5; exact ⟨hno, by omega⟩
      · rintro ⟨_, h5⟩; omega

/-! The layer site: what phases need is bounded; site.Check. -/
theorem fold_bound (f : Nat → Int) : ∀ (l : List Nat) (n : Int), (∀ b ∈ l, 0 ≤ f b ∧ f b ≤ 1048576) → 0 ≤ n ∧ n ≤ 1048576 → 0 ≤ l.foldl (fun m b => maxI m (f b)) n ∧ l.foldl (fun m b => maxI m (f b)) n ≤ 1048576
  | [], n, _, h => h
  | b :: l, n, hf, h => by
    have hb := hf b (by simp)
    refine fold_bound f l _ (fun c hc => hf c (by simp [hc])) ?_
    show 0 ≤ maxI n (f b) ∧ maxI n (f b) ≤ 1048576
    unfold maxI; split <;> omega
theorem betw_bound (s : Sit) (hA : ApartOk s) (a b : Nat) (ha : a < s.groups.length) (hb : b < s.groups.length) : 0 ≤ betw s a b ∧ betw s a b ≤ 1048576 := by
  obtain ⟨h1, h2⟩ := hA a ha
  obtain ⟨-, h3, h4⟩ := h2 b hb
  have hy := (h1 ha).2.2
  have hya : yelAt s a = s.groups[a].yellow := by simp [yelAt, ha]
  cases h : isAp s a b
  · rw [h4 h]; omega
  · have := h3 h; omega
theorem clear_bound (s : Sit) (hS : Shaped s) (hA : ApartOk s) (i j : Nat) : 0 ≤ clearN s i j ∧ clearN s i j ≤ 1048576 := by
  unfold clearN
  have : ∀ k, k ≤ s.groups.length → 0 ≤ clearK s (setAt s i) (setAt s j) k ∧ clearK s (setAt s i) (setAt s j) k ≤ 1048576 := by
    intro k
    induction k with
    | zero => intro _; simp [clearK]
    | succ k ih =>
      intro hk
      have ih := ih (by omega)
      rw [clearK_succ]
      unfold clearRow
      split
      · unfold most
        refine fold_bound _ _ _ (fun b hb => ?_) ih
        have hb2 := (bitsOf_mem.1 hb).2
        rw [Nat.testBit_and] at hb2
        have hbn : b < s.groups.length := by
          apply Classical.byContradiction
          intro hnb
          have hr := (hS.2.2.2.2.2.2 k (by rw [hS.2.2.1]; omega)).2
          have : (s.apart.getD k 0).testBit b = false := Nat.testBit_lt_two_pow (Nat.lt_of_lt_of_le hr (Nat.pow_le_pow_right (by omega) (by omega)))
          simp only [this, Bool.false_and] at hb2
          cases hb2
        exact betw_bound s hA k b (by omega) hbn
      · exact ih
  exact this _ (Nat.le_refl _)
theorem needs_ok (s : Sit) (hS : Shaped s) (hA : ApartOk s) (hP : PhasedOk s) : NeedsOk s := by
  intro i hi
  have hc := clear_bound s hS hA i ((i + 1) % s.phases.length)
  have hm := (hP.1 i hi hi).2.2.1.1
  have : minAt s i = s.phases[i].min := by simp [minAt, hi]
  unfold needsN; omega

def chk (s : Sit) : Nat → Prop
  | 0 => (0 ≤ s.id ∧ s.id ≤ 65535) ∧ Shaped s
  | 1 => ApartOk s
  | 2 => PhasedOk s
  | 3 => s.eyes.all (eyeOk s.phases.length) = true
  | 4 => timedN s = true
  | 5 => (s.plans.all fun p => decide (Fits s p)) = true
  | _ => True
def SiteOk (s : Sit) : Prop := ∀ i, i < 6 → chk s i
noncomputable instance (s : Sit) : Decidable (SiteOk s) := Classical.propDecidable _
noncomputable def checkN (s : Sit) : Int := if SiteOk s then 0 else 50

set_option maxHeartbeats 1000000 in
theorem check_spec (s : Sit) : FnD Tryz.prog 47 [sitV s] (.int .i64 (checkN s)) tabG := by
  have hpu := (⟨grps_pure s.groups, phas_pure s.phases, eyes_pure s.eyes, plns_pure s.plans, sets_pure s.apart, rows_pure s.between⟩ : _ ∧ _ ∧ _ ∧ _ ∧ _ ∧ _)
  obtain ⟨hp1, hp2, hp3, hp4, hp5, hp6⟩ := hpu
  unfold sitV
  refine fnD_of mixed Tryz.func47 rfl rfl (by simp [Tryz.ntmps47]) fun hwf E => ?_
  simp (disch := omega) [go_sem] at hwf
  simp (disch := omega) [Tryz.ntmps47, go_sem]
  have bad : ∀ i, i < 6 → ¬ chk s i → checkN s = 50 := fun i hi h => by unfold checkN; rw [if_neg fun hA => h (hA i hi)]
  refine awz_loop mixed (fun k : Nat => ⟨[(5, .int .i64 k), (3, .bool false), (1, .ptr 0 1 0 0), (2, .int .i64 0)], [(0, ⟨.box, 75, 12, [sitV s]⟩)], 1024, [], 48, 0, tabG⟩)
    (fun k => k ≤ 6 ∧ ∀ i, i < k → chk s i) (fun k => 6 - k) 0 ⟨by omega, fun a ha => by omega⟩ ?_ ?_
  · refine Le.mk [(0, some 0)] [0] ⟨rfl, rfl, rfl⟩ ?_ ?_ ?_ <;> simp [go_sem, sitV, hp1, hp2, hp3, hp4, hp5, hp6]
  · rintro k ⟨hk, hno⟩
    have hcases : k = 0 ∨ k = 1 ∨ k = 2 ∨ k = 3 ∨ k = 4 ∨ k = 5 ∨ k = 6 := by omega
    rcases hcases with rfl | rfl | rfl | rfl | rfl | rfl | rfl
    · simp (disch := omega) [go_sem, sitV]
      refine callK_bool (in_spec s.id 0 65535) [] (by simp [go_sem]) (fun h0 => ?_) (fun h0 => ?_)
      · simp (disch := omega) [go_sem, sitV]
        refine callK_bool (shape_spec s) [] (by simp [go_sem, sitV, hp1, hp2, hp3, hp4, hp5, hp6]) (fun h1 => ?_) (fun h1 => ?_)
        · simp (disch := omega) [go_sem]
          refine round_of 1 ⟨by omega, fun i hi => ?_⟩ (by omega) (Le.mk [(0, some 0)] [0] ⟨rfl, rfl, rfl⟩ ?_ ?_ ?_)
          · have : i = 0 := by omega
            subst this; exact ⟨inN_iff.1 h0, by simpa using h1⟩
          all_goals simp [go_sem, sitV, hp1, hp2, hp3, hp4, hp5, hp6]
        · simp (disch := omega) [go_sem]
          exact (bad 0 (by omega) (fun hc => by simp at h1; exact h1 hc.2)).symm
      · simp (disch := omega) [go_sem]
        exact (bad 0 (by omega) (fun hc => by have := inN_iff.2 hc.1; rw [h0] at this; cases this)).symm
    · have hS : Shaped s := (hno 0 (by omega)).2
      simp (disch := omega) [go_sem, sitV]
      refine callK_bool (apart_spec s hS) [] (by simp [go_sem, sitV, hp1, hp2, hp3, hp4, hp5, hp6]) (fun h1 => ?_) (fun h1 => ?_)
      · simp (disch := omega) [go_sem]
        refine round_of 2 ⟨by omega, fun i hi => ?_⟩ (by omega) (Le.mk [(0, some 0)] [0] ⟨rfl, rfl, rfl⟩ ?_ ?_ ?_)
        · by_cases e : i = 1
          · subst e; simpa [chk] using h1
          · exact hno i (by omega)
        all_goals simp [go_sem, sitV, hp1, hp2, hp3, hp4, hp5, hp6]
      · simp (disch := omega) [go_sem]
        exact (bad 1 (by omega) (by simpa [chk] using h1)).symm
    · have hS : Shaped s := (hno 0 (by omega)).2
      simp (disch := omega) [go_sem, sitV]
      refine callK_bool (phased_spec s hS) [] (by simp [go_sem, sitV, hp1, hp2, hp3, hp4, hp5, hp6]) (fun h1 => ?_) (fun h1 => ?_) (by simp [tabG, go_sem])
      · simp (disch := omega) [go_sem]
        refine round_of 3 ⟨by omega, fun i hi => ?_⟩ (by omega) (Le.mk [(0, some 0)] [0] ⟨rfl, rfl, rfl⟩ ?_ ?_ ?_)
        · by_cases e : i = 2
          · subst e; simpa [chk] using h1
          · exact hno i (by omega)
        all_goals simp [go_sem, sitV, hp1, hp2, hp3, hp4, hp5, hp6]
      · simp (disch := omega) [go_sem]
        exact (bad 2 (by omega) (by simpa [chk] using h1)).symm
    · simp (disch := omega) [go_sem, sitV]
      refine callK_bool (eyed_spec s) [] (by simp [go_sem, sitV, hp1, hp2, hp3, hp4, hp5, hp6]) (fun h1 => ?_) (fun h1 => ?_)
      · simp (disch := omega) [go_sem]
        refine round_of 4 ⟨by omega, fun i hi => ?_⟩ (by omega) (Le.mk [(0, some 0)] [0] ⟨rfl, rfl, rfl⟩ ?_ ?_ ?_)
        · by_cases e : i = 3
          · subst e; simpa [chk] using h1
          · exact hno i (by omega)
        all_goals simp [go_sem, sitV, hp1, hp2, hp3, hp4, hp5, hp6]
      · simp (disch := omega) [go_sem]
        exact (bad 3 (by omega) (by simpa [chk] using h1)).symm
    · have hS : Shaped s := (hno 0 (by omega)).2
      have hN : NeedsOk s := needs_ok s hS (hno 1 (by omega)) (hno 2 (by omega))
      simp (disch := omega) [go_sem, sitV]
      refine callK_bool (timed_spec s hS hN) [] (by simp [go_sem, sitV, hp1, hp2, hp3, hp4, hp5, hp6]) (fun h1 => ?_) (fun h1 => ?_) (by simp [tabG, go_sem])
      · simp (disch := omega) [go_sem]
        refine round_of 5 ⟨by omega, fun i hi => ?_⟩ (by omega) (Le.mk [(0, some 0)] [0] ⟨rfl, rfl, rfl⟩ ?_ ?_ ?_)
        · by_cases e : i = 4
          · subst e; simpa [chk] using h1
          · exact hno i (by omega)
        all_goals simp [go_sem, sitV, hp1, hp2, hp3, hp4, hp5, hp6]
      · simp (disch := omega) [go_sem]
        exact (bad 4 (by omega) (by simpa [chk] using h1)).symm
    · have hS : Shaped s := (hno 0 (by omega)).2
      have hN : NeedsOk s := needs_ok s hS (hno 1 (by omega)) (hno 2 (by omega))
      have hL : 0 ≤ s.low ∧ s.high ≤ 1048576 := by
        have h4 : timedN s = true := hno 4 (by omega)
        simp [timedN, inN] at h4
        omega
      simp (disch := omega) [go_sem, sitV]
      refine callK_bool (planned_spec s hS hN hL) [] (by simp [go_sem, sitV, hp1, hp2, hp3, hp4, hp5, hp6]) (fun h1 => ?_) (fun h1 => ?_) (by simp [tabG, go_sem])
      · simp (disch := omega) [go_sem]
        refine round_of 6 ⟨by omega, fun i hi => ?_⟩ (by omega) (Le.mk [(0, some 0)] [0] ⟨rfl, rfl, rfl⟩ ?_ ?_ ?_)
        · by_cases e : i = 5
          · subst e; simpa [chk] using h1
          · exact hno i (by omega)
        all_goals simp [go_sem, sitV, hp1, hp2, hp3, hp4, hp5, hp6]
      · simp (disch := omega) [go_sem]
        exact (bad 5 (by omega) (by simpa [chk] using h1)).symm
    · simp (disch := omega) [go_sem]
      unfold checkN; rw [if_pos (show SiteOk s from hno)]

/-! The layer site: Plan and Worst. -/
theorem SiteOk.shaped {s : Sit} (h : SiteOk s) : Shaped s := (h 0 (by omega)).2
theorem SiteOk.apart {s : Sit} (h : SiteOk s) : ApartOk s := h 1 (by omega)
theorem SiteOk.phased {s : Sit} (h : SiteOk s) : PhasedOk s := h 2 (by omega)
theorem SiteOk.needs {s : Sit} (h : SiteOk s) : NeedsOk s := needs_ok s h.shaped h.apart h.phased
theorem SiteOk.low {s : Sit} (h : SiteOk s) : 0 ≤ s.low ∧ s.high ≤ 1048576 := by
  have h4 : timedN s = true := h 4 (by omega)
  simp [timedN, inN] at h4
  omega
theorem checkN_ok {s : Sit} (h : SiteOk s) : checkN s = 0 := by unfold checkN; rw [if_pos h]
theorem checkN_bad {s : Sit} (h : ¬ SiteOk s) : checkN s = 50 := by unfold checkN; rw [if_neg h]

theorem plan_spec (s : Sit) (p : Pln) : FnD Tryz.prog 23 [sitV s, plnV p] (.tup [.bool (decide (SiteOk s) && decide (Fits s p)), .int .i64 (checkN s)]) tabG := by
  have hpu := (⟨grps_pure s.groups, phas_pure s.phases, eyes_pure s.eyes, plns_pure s.plans, sets_pure s.apart, rows_pure s.between⟩ : _ ∧ _ ∧ _ ∧ _ ∧ _ ∧ _)
  obtain ⟨hp1, hp2, hp3, hp4, hp5, hp6⟩ := hpu
  have hc := check_spec s
  have hf := fun (h : SiteOk s) => fits_spec s p h.shaped h.needs h.low
  have hsv : sitV s = .agg [.int .i64 s.id, .sl 3 (s.groups.map grpV), .sl 1 (sets s.apart), .sl 1 (rows s.between), .sl 5 (s.phases.map phaV), .sl 4 (s.eyes.map eyeV), .int .i64 s.watch, .int .i64 s.feed, .int .i64 s.heal, .int .i64 s.low, .int .i64 s.high, .sl 3 (s.plans.map plnV)] := rfl
  have hpv : plnV p = .agg [.int .i64 p.cycle, .int .i64 p.offset, .sl 1 (ints p.splits)] := rfl
  rw [hsv] at hc hf ⊢
  rw [hpv] at hf ⊢
  refine fnD_of mixed Tryz.func23 rfl rfl (by simp [Tryz.ntmps23]) fun hwf E => ?_
  simp (disch := omega) [Tryz.ntmps23, go_sem]
  refine callK_data hc [] (by simp [go_sem, hp1, hp2, hp3, hp4, hp5, hp6]) (.inl rfl) (by simp [go_sem]) (fun _ => ?_) (by simp [tabG, go_sem])
  by_cases hOk : SiteOk s
  · rw [checkN_ok hOk]
    simp (disch := omega) [go_sem]
    refine callK_data (hf hOk) [] (by simp [go_sem, hp1, hp2, hp3, hp4, hp5, hp6, ints_pure]) (.inl rfl) (by simp [go_sem]) (fun _ => ?_) (by simp [tabG, go_sem])
    simp (disch := omega) [go_sem, hOk]
  · rw [checkN_bad hOk]
    simp (disch := omega) [go_sem, hOk]

/-! The layer site: what is asked, and its answers. -/
theorem sit_pure (s : Sit) : (sitV s).pure := by
  simp [sitV, go_sem, grps_pure, phas_pure, eyes_pure, plns_pure, sets_pure, rows_pure]
def groupsV (s : Sit) (g : FuncId) : V := .func (.func g) [] [.tptr 12 [sitV s] 0 0]
noncomputable def askN (s : Sit) (b : Int) (l : List Int) : Int := if SiteOk s then if (l.all fun x => inN x 0 (b - 1)) = true then 0 else 2 else 50

theorem asked_spec (s : Sit) (g : FuncId) (b : Int) (l : List Int) (hb : 0 ≤ b ∧ b ≤ 140737488355328) (hg : FnD Tryz.prog g [.tptr 12 [sitV s] 0 0] (.int .i64 b)) :
    FnD Tryz.prog 176 [sitV s, groupsV s g, .sl 1 (ints l)] (.int .i64 (askN s b l)) tabG := by
  have hpu := (⟨grps_pure s.groups, phas_pure s.phases, eyes_pure s.eyes, plns_pure s.plans, sets_pure s.apart, rows_pure s.between⟩ : _ ∧ _ ∧ _ ∧ _ ∧ _ ∧ _)
  obtain ⟨hp1, hp2, hp3, hp4, hp5, hp6⟩ := hpu
  have hc := check_spec s
  have hsv : sitV s = .agg [.int .i64 s.id, .sl 3 (s.groups.map grpV), .sl 1 (sets s.apart), .sl 1 (rows s.between), .sl 5 (s.phases.map phaV), .sl 4 (s.eyes.map eyeV), .int .i64 s.watch, .int .i64 s.feed, .int .i64 s.heal, .int .i64 s.low, .int .i64 s.high, .sl 3 (s.plans.map plnV)] := rfl
  unfold groupsV
  rw [hsv] at hc hg ⊢
  refine fnD_of mixed Tryz.func176 rfl rfl (by simp [Tryz.ntmps176]) fun hwf E => ?_
  simp (disch := omega) [go_sem, ints_len] at hwf
  simp (disch := omega) [Tryz.ntmps176, go_sem]
  refine callK_data hc [] (by simp [go_sem, hp1, hp2, hp3, hp4, hp5, hp6]) (.inl rfl) (by simp [go_sem]) (fun _ => ?_) (by simp [tabG, go_sem])
  by_cases hOk : SiteOk s
  · rw [checkN_ok hOk]
    simp (disch := omega) [go_sem, ints_len]
    refine awz_loop mixed (fun k : Nat => ⟨[(17, .int .i64 k), (16, .int .i64 l.length), (15, .sl 1 (ints l)), (1, .func (.func g) [] [.tptr 12 [sitV s] 0 0]), (6, .int .i64 0)], [], 1024, [], 28, 0, tabG⟩)
      (fun k => k ≤ l.length ∧ ∀ j (h : j < l.length), j < k → inN l[j] 0 (b - 1) = true) (fun k => l.length - k) 0 (by simp) ?_ ?_
    · refine Le.mk [] [] ⟨rfl, rfl, rfl⟩ ?_ ?_ ?_ <;> simp [go_sem, ints_pure, sitV, hp1, hp2, hp3, hp4, hp5, hp6]
    · rintro k ⟨hk, hno⟩
      simp (disch := omega) [go_sem]
      refine br_of (fun h => ?_) (fun h => ?_) <;> simp at h
      · simp (disch := omega) [go_sem, ints_len, nth_ints, h]
        refine callK_data hg [] (by simp [go_sem, sitV, hp1, hp2, hp3, hp4, hp5, hp6]) (.inl rfl) (by simp [go_sem]) (fun _ => ?_)
        simp (disch := omega) [go_sem]
        refine callK_bool (in_spec l[k] 0 (b - 1)) [] (by simp [go_sem]) (fun h1 => ?_) (fun h1 => ?_)
        · simp (disch := omega) [go_sem]
          refine round_of (k + 1) ⟨by omega, fun j h3 hj => ?_⟩ (by omega) (Le.mk [] [] ⟨rfl, rfl, rfl⟩ ?_ ?_ ?_)
          · by_cases e : j = k
            · subst e; exact h1
            · exact hno j h3 (by omega)
          all_goals simp (disch := omega) [go_sem, ints_pure, sitV, hp1, hp2, hp3, hp4, hp5, hp6]
        · simp (disch := omega) [go_sem]
          unfold askN
          rw [if_pos hOk, if_neg]
          simp only [List.all_eq_true]
          intro hA
          have := hA _ (List.getElem_mem h)
          rw [h1] at this; cases this
      · simp (disch := omega) [go_sem]
        unfold askN
        rw [if_pos hOk, if_pos]
        simp only [List.all_eq_true]
        intro x hx
        obtain ⟨j, hj, rfl⟩ := List.getElem_of_mem hx
        exact hno j hj (by omega)
  · rw [checkN_bad hOk]
    simp (disch := omega) [go_sem]
    unfold askN; rw [if_neg hOk]

/-! The layer site: Apart, Clear. -/
theorem clear1_spec (s : Sit) : FnD Tryz.prog 177 [.tptr 12 [sitV s] 0 0] (.int .i64 s.phases.length) := by
  unfold sitV
  refine fnD_of mixed Tryz.func177 rfl rfl (by simp [Tryz.ntmps177]) fun hwf E => ?_
  simp (disch := omega) [Tryz.ntmps177, go_sem]

theorem askN_zero {s : Sit} {b : Int} {l : List Int} (h : askN s b l = 0) : SiteOk s ∧ ∀ x ∈ l, 0 ≤ x ∧ x ≤ b - 1 := by
  unfold askN at h
  split at h
  · rename_i hOk
    split at h
    · rename_i hA
      simp only [List.all_eq_true, inN_iff] at hA
      exact ⟨hOk, hA⟩
    · cases h
  · cases h

theorem sclear_spec (s : Sit) (a b : Int) : FnD Tryz.prog 174 [sitV s, .int .i64 a, .int .i64 b] (.tup [.int .i64 (if askN s s.phases.length [a, b] = 0 then clearN s a.toNat b.toNat else 0), .int .i64 (askN s s.phases.length [a, b])]) tabG := by
  have hpu := (⟨grps_pure s.groups, phas_pure s.phases, eyes_pure s.eyes, plns_pure s.plans, sets_pure s.apart, rows_pure s.between⟩ : _ ∧ _ ∧ _ ∧ _ ∧ _ ∧ _)
  obtain ⟨hp1, hp2, hp3, hp4, hp5, hp6⟩ := hpu
  have hsv : sitV s = .agg [.int .i64 s.id, .sl 3 (s.groups.map grpV), .sl 1 (sets s.apart), .sl 1 (rows s.between), .sl 5 (s.phases.map phaV), .sl 4 (s.eyes.map eyeV), .int .i64 s.watch, .int .i64 s.feed, .int .i64 s.heal, .int .i64 s.low, .int .i64 s.high, .sl 3 (s.plans.map plnV)] := rfl
  have hq := fun hb => asked_spec s 177 s.phases.length [a, b] hb (clear1_spec s)
  have hc := clear_spec s
  unfold groupsV at hq
  rw [hsv] at hq hc ⊢
  refine fnD_of mixed Tryz.func174 rfl rfl (by simp [Tryz.ntmps174]) fun hwf E => ?_
  simp (disch := omega) [go_sem] at hwf
  simp (disch := omega) [Tryz.ntmps174, go_sem]
  refine callK_data (hq ⟨by omega, by omega⟩) [0, 112] (by simp [go_sem, ints, hp1, hp2, hp3, hp4, hp5, hp6]) (.inr (by simp [go_sem])) (by simp [go_sem]) (fun _ => ?_) (by simp [tabG, go_sem])
  simp (disch := omega) [go_sem]
  refine br_of (fun h => ?_) (fun h => ?_) <;> simp at h
  · simp (disch := omega) [go_sem, h]
  · obtain ⟨hOk, hl⟩ := askN_zero h
    have ha := hl a (by simp)
    have hb := hl b (by simp)
    obtain ⟨i, rfl⟩ := Int.eq_ofNat_of_zero_le ha.1
    obtain ⟨j, rfl⟩ := Int.eq_ofNat_of_zero_le hb.1
    simp (disch := omega) [go_sem]
    refine callK_data (hc i j hOk.shaped (by omega) (by omega)) [] (by simp [go_sem, hp1, hp2, hp3, hp4, hp5, hp6]) (.inl rfl) (by simp [go_sem]) (fun _ => ?_) (by simp [tabG, go_sem])
    simp (disch := omega) [go_sem, h]

/-! The layer site: Between. -/
end Go.Proofs.YtpijmanjjhpkiaaGreatDoor

namespace Go.Proofs.YtpijmanjjhpkiaaGreatDoor
open Go.AM Go.RowKit
set_option maxRecDepth 100000

/-! The layer net: what its values are; slices.Contains; times. -/
structure SubN where
  sites : List Int
  critical : Int
structure WedN where
  a : Int
  b : Int
  votes : Int
  offsets : List Int
structure NetN where
  sites : List Sit
  subs : List SubN
  weds : List WedN
  low : Int
  high : Int
  step : Int
def subV (u : SubN) : V := .agg [.sl 1 (ints u.sites), .int .i64 u.critical]
def wedV (w : WedN) : V := .agg [.int .i64 w.a, .int .i64 w.b, .int .i64 w.votes, .sl 1 (ints w.offsets)]
def netV (n : NetN) : V := .agg [.sl 12 (n.sites.map sitV), .sl 2 (n.subs.map subV), .sl 4 (n.weds.map wedV), .int .i64 n.low, .int .i64 n.high, .int .i64 n.step]
theorem sits_pure (l : List Sit) : pures (l.map sitV) := pures_map _ sit_pure l
theorem subs_pure (l : List SubN) : pures (l.map subV) := pures_map _ (fun u => by simp [subV, go_sem, ints_pure]) l
theorem weds_pure (l : List WedN) : pures (l.map wedV) := pures_map _ (fun u => by simp [wedV, go_sem, ints_pure]) l
theorem net_pure (n : NetN) : (netV n).pure := by simp [netV, go_sem, sits_pure, subs_pure, weds_pure]

theorem nin_spec (x a b : Int) : FnD Tryz.prog 105 [.int .i64 x, .int .i64 a, .int .i64 b] (.bool (inN x a b)) := by
  refine fnD_of mixed Tryz.func105 rfl rfl (by simp [Tryz.ntmps105]) fun hwf E => ?_
  simp (disch := omega) [Tryz.ntmps105, go_sem]
  rfl

/-- The first place at which a number stands; -1: none. -/
def placeN (l : List Int) (x : Int) : Int := match l.findIdx? (· == x) with | some i => i | none => -1
theorem place_yes {l : List Int} {x : Int} {k : Nat} (h : k < l.length) (hno : ∀ j (hj : j < l.length), j < k → l[j] ≠ x) (hk : l[k] = x) : placeN l x = k := by
  have : l.findIdx? (· == x) = some k := by
    rw [List.findIdx?_eq_some_iff_getElem]
    exact ⟨h, by simpa using hk, fun j hj => by simpa using hno j (by omega) hj⟩
  simp [placeN, this]
theorem place_no {l : List Int} {x : Int} (hno : ∀ j (hj : j < l.length), l[j] ≠ x) : placeN l x = -1 := by
  have : l.findIdx? (· == x) = none := by
    rw [List.findIdx?_eq_none_iff]
    intro y hy
    obtain ⟨j, hj, rfl⟩ := List.getElem_of_mem hy
    simpa using hno j hj
  simp [placeN, this]
theorem place_has {l : List Int} {x : Int} : decide (placeN l x ≥ 0) = decide (x ∈ l) := by
  by_cases h : x ∈ l
  · obtain ⟨j, hj, e⟩ := List.getElem_of_mem h
    unfold placeN
    cases hf : l.findIdx? (· == x) with
    | none =>
      have := List.findIdx?_eq_none_iff.1 hf x h
      simp at this
    | some i => simp [h]
  · have : placeN l x = -1 := place_no fun j hj e => h (e ▸ List.getElem_mem hj)
    simp [this, h]

theorem index_spec (l : List Int) (x : Int) : FnD Tryz.prog 104 [.sl 1 (ints l), .int .i64 x] (.int .i64 (placeN l x)) := by
  refine fnD_of mixed Tryz.func104 rfl rfl (by simp [Tryz.ntmps104]) fun hwf E => ?_
  simp (disch := omega) [go_sem, ints_len] at hwf
  simp (disch := omega) [Tryz.ntmps104, go_sem, ints_len]
  refine awz_loop mixed (fun k : Nat => ⟨[(0, .sl 1 (ints l)), (1, .int .i64 x), (7, .int .i64 l.length), (8, .int .i64 k), (4, .int .i64 0)], [], 1024, [], 19, 0, []⟩)
    (fun k => k ≤ l.length ∧ ∀ j (hj : j < l.length), j < k → l[j] ≠ x) (fun k => l.length - k) 0 (by simp) ?_ ?_
  · refine Le.mk [] [] ⟨rfl, rfl, rfl⟩ ?_ ?_ ?_ <;> simp [go_sem, ints_pure]
  · rintro k ⟨hk, hno⟩
    simp (disch := omega) [go_sem]
    refine br_of (fun h => ?_) (fun h => ?_) <;> simp at h
    · simp (disch := omega) [go_sem, h, ints_len, nth_ints]
      refine br_of (fun h2 => ?_) (fun h2 => ?_) <;> simp at h2
      · simp (disch := omega) [go_sem]
        exact (place_yes h hno h2.symm).symm
      · simp (disch := omega) [go_sem]
        refine round_of (k + 1) ⟨h, fun j hj hk' => ?_⟩ (by omega) (Le.mk [] [] ⟨rfl, rfl, rfl⟩ ?_ ?_ ?_)
        · by_cases e : j = k
          · subst e; exact fun e => h2 e.symm
          · exact hno j hj (by omega)
        all_goals simp (disch := omega) [go_sem, ints_pure]
    · simp (disch := omega) [go_sem]
      exact (place_no fun j hj => hno j hj (by omega)).symm
theorem contains_spec (l : List Int) (x : Int) : FnD Tryz.prog 51 [.sl 1 (ints l), .int .i64 x] (.bool (decide (x ∈ l))) := by
  refine fnD_of mixed Tryz.func51 rfl rfl (by simp [Tryz.ntmps51]) fun hwf E => ?_
  simp (disch := omega) [Tryz.ntmps51, go_sem] at hwf ⊢
  refine callK_data (index_spec l x) [] (by simp [go_sem, ints_pure]) (.inl rfl) (by simp [go_sem]) fun hw => ?_
  simp (disch := omega) [go_sem]
  simpa using place_has

/-- May the cycles of a region be? -/
def TimedOk (n : NetN) : Prop := (1 ≤ n.low ∧ n.low ≤ 1048576) ∧ (n.low ≤ n.high ∧ n.high ≤ 1048576) ∧ (1 ≤ n.step ∧ n.step ≤ 1048576) ∧ (n.high - n.low).tmod n.step = 0 ∧ (n.high - n.low).tdiv n.step ≤ 64
instance (n : NetN) : Decidable (TimedOk n) := by unfold TimedOk; infer_instance
theorem ntimed_spec (n : NetN) : FnD Tryz.prog 52 [netV n] (.bool (decide (TimedOk n))) := by
  have hp1 := sits_pure n.sites
  have hp2 := subs_pure n.subs
  have hp3 := weds_pure n.weds
  unfold netV
  refine fnD_of mixed Tryz.func52 rfl rfl (by simp [Tryz.ntmps52]) fun hwf E => ?_
  simp (disch := omega) [go_sem] at hwf
  simp (disch := omega) [Tryz.ntmps52, go_sem]
  refine callK_bool (nin_spec n.low 1 1048576) [] (by simp [go_sem]) (fun h1 => ?_) (fun h1 => ?_)
  · simp (disch := omega) [go_sem]
    refine callK_bool (nin_spec n.high n.low 1048576) [] (by simp [go_sem]) (fun h2 => ?_) (fun h2 => ?_)
    · simp (disch := omega) [go_sem]
      refine callK_bool (nin_spec n.step 1 1048576) [] (by simp [go_sem]) (fun h3 => ?_) (fun h3 => ?_)
      · rw [inN_iff] at h1 h2 h3
        simp (disch := omega) [go_sem]
        have hq : (n.high - n.low).tdiv n.step = (n.high - n.low) / n.step := Int.tdiv_eq_ediv_of_nonneg (by omega)
        have hq0 : 0 ≤ (n.high - n.low) / n.step := Int.ediv_nonneg (by omega) (by omega)
        have hq1 : (n.high - n.low) / n.step ≤ n.high - n.low := Int.ediv_le_self _ (by omega)
        rw [i64_wrap (by omega) (by omega)]
        refine ⟨by omega, fun _ => by omega, ?_⟩
        rw [Bool.eq_iff_iff, decide_eq_true_iff (p := TimedOk n)]
        simp only [Bool.and_eq_true, decide_eq_true_eq]
        exact ⟨fun h => ⟨h1, h2, h3, h⟩, fun h => h.2.2.2⟩
      · simp (disch := omega) [go_sem]
        intro hA
        rw [inN_iff.2 hA.2.2.1] at h3; cases h3
    · simp (disch := omega) [go_sem]
      intro hA
      rw [inN_iff.2 hA.2.1] at h2; cases h2
  · simp (disch := omega) [go_sem]
    intro hA
    rw [inN_iff.2 hA.1] at h1; cases h1

/-! The layer net: sites. -/
/-! sets of numbers, as maps -/
def marks (l : List Int) : List V := l.map fun i => .tup [.int .i64 i, .bool true]
theorem marks_pure (l : List Int) : pures (marks l) := pures_map _ (fun u => by simp [go_sem]) l
theorem marks_len (l : List Int) : (marks l).length = l.length := by simp [marks]
def markV (b : Bool) : Option V := if b then some (.bool true) else none
theorem markV_get (b : Bool) : (markV b).getD (.bool false) = .bool b := by cases b <;> rfl
theorem mfind_marks (x : Int) : ∀ (l : List Int), mfind (.int .i64 x) (marks l) = some (markV (decide (x ∈ l)))
  | [] => by simp [marks, mfind, markV]
  | y :: l => by
    have ih := mfind_marks x l
    unfold marks at ih ⊢
    simp only [List.map_cons, mfind, keyB, if_true]
    by_cases h : x = y
    · subst h; simp [markV]
    · have hb : (x == y) = false := by simpa using h
      simp only [hb, ih]
      simp [h]
theorem mput_marks (x : Int) : ∀ (l : List Int), x ∉ l → mput (.int .i64 x) (.bool true) (marks l) = some (marks (l ++ [x]))
  | [], _ => by simp [marks, mput]
  | y :: l, h => by
    simp only [List.mem_cons, not_or] at h
    have ih := mput_marks x l h.2
    unfold marks at ih ⊢
    simp only [List.map_cons, List.cons_append, mput, keyB, if_true]
    have hb : (x == y) = false := by simpa using h.1
    simp only [hb, ih]
    simp

/-! sites -/
def sitedAt (n : NetN) (s : Sit) : Prop := SiteOk s ∧ s.low ≤ n.low ∧ n.high ≤ s.high
def idsN (n : NetN) (k : Nat) : List Int := (n.sites.take k).map Sit.id
theorem idsN_succ {n : NetN} {k : Nat} (h : k < n.sites.length) : idsN n (k + 1) = idsN n k ++ [n.sites[k].id] := by
  unfold idsN
  rw [List.take_succ_eq_append_getElem h, List.map_append]; rfl
theorem idsN_len {n : NetN} {k : Nat} (h : k ≤ n.sites.length) : (idsN n k).length = k := by unfold idsN; rw [List.length_map, List.length_take]; omega
def SitedOk (n : NetN) : Prop := (1 ≤ n.sites.length ∧ n.sites.length ≤ 12) ∧ (idsN n n.sites.length).Nodup ∧ ∀ s ∈ n.sites, sitedAt n s
noncomputable instance (n : NetN) : Decidable (SitedOk n) := Classical.propDecidable _

def sitedInv (n : NetN) (k : Nat) : Prop := k ≤ n.sites.length ∧ (idsN n k).Nodup ∧ ∀ j (h : j < n.sites.length), j < k → sitedAt n n.sites[j]

set_option maxHeartbeats 1000000 in
theorem sited_spec (n : NetN) : FnD Tryz.prog 53 [netV n] (.bool (decide (SitedOk n))) tabG := by
  have hp1 := sits_pure n.sites
  have hp2 := subs_pure n.subs
  have hp3 := weds_pure n.weds
  unfold netV
  refine fnD_of mixed Tryz.func53 rfl rfl (by simp [Tryz.ntmps53]) fun hwf E => ?_
  simp (disch := omega) [go_sem] at hwf
  simp (disch := omega) [Tryz.ntmps53, go_sem]
  refine awz_loop mixed (fun k : Nat => ⟨[(10, .int .i64 k), (9, .int .i64 n.sites.length), (8, .sl 12 (n.sites.map sitV)), (3, .mp 32), (1, .ptr 0 1 0 0), (2, .bool false)], [(32, ⟨.map, 157, 1, marks (idsN n k)⟩), (0, ⟨.box, 26, 6, [netV n]⟩)], 1024, [], 45, 0, tabG⟩)
    (sitedInv n) (fun k => n.sites.length - k) 0 ⟨by omega, by simp [idsN], fun j h hj => by omega⟩ ?_ ?_
  · refine Le.mk [(0, some 0), (32, some 32)] [0, 32] ⟨rfl, rfl, rfl⟩ ?_ ?_ ?_ <;> simp [go_sem, netV, hp1, hp2, hp3, idsN, marks]
  · rintro k ⟨hk, hnd, hno⟩
    simp (disch := omega) [go_sem, netV]
    refine br_of (fun h => ?_) (fun h => ?_) <;> simp at h
    · have he : nth (n.sites.map sitV) k = sitV n.sites[k] := nth_map h
      simp (disch := omega) [go_sem, h, he, mfind_marks, markV_get, sitV]
      have hc := check_spec n.sites[k]
      have bad : ¬ sitedAt n n.sites[k] → SitedOk n → False := fun hb hA => hb (hA.2.2 _ (List.getElem_mem h))
      refine gbr_of (fun h1 => ?_) (fun h1 => ?_) <;> simp at h1
      · simp (disch := omega) [go_sem, h1]
        refine callK_data hc [] (by simp [go_sem, sitV, grps_pure, phas_pure, eyes_pure, plns_pure, sets_pure, rows_pure]) (.inl rfl) (by simp [go_sem]) (fun _ => ?_) (by simp [tabG, go_sem])
        by_cases hOk : SiteOk n.sites[k]
        · rw [checkN_ok hOk]
          simp (disch := omega) [go_sem]
          refine br_of (fun h2 => ?_) (fun h2 => ?_) <;> simp at h2
          · simp (disch := omega) [go_sem]
            exact bad (fun hb => by have := hb.2; omega)
          · have hm := mput_marks _ _ h1
            simp (disch := omega) [go_sem, hm, marks_len, idsN_len hk]
            have e := idsN_succ h
            refine ⟨by omega, ?_⟩
            refine round_of (k + 1) ⟨by omega, ?_, fun j hj hjk => ?_⟩ (by omega) (Le.mk [(0, some 0), (32, some 32)] [0, 32] ⟨rfl, rfl, rfl⟩ ?_ ?_ ?_)
            · rw [e, List.nodup_append]
              refine ⟨hnd, by simp, fun a ha b hb => ?_⟩
              simp only [List.mem_singleton] at hb
              subst hb
              exact fun e => h1 (e ▸ ha)
            · by_cases e2 : j = k
              · subst e2; exact ⟨hOk, by omega⟩
              · exact hno j hj (by omega)
            all_goals simp [go_sem, netV, hp1, hp2, hp3, e, marks_pure]
        · rw [checkN_bad hOk]
          simp (disch := omega) [go_sem]
          exact bad (fun hb => hOk hb.1)
      · simp (disch := omega) [go_sem, h1]
        intro hA
        have hA2 := hA.2.1
        have e : (idsN n (k + 1)).Nodup := by
          have : idsN n (k + 1) = (idsN n n.sites.length).take (k + 1) := by
            unfold idsN
            rw [← List.map_take, List.take_take, Nat.min_eq_left (by omega)]
          rw [this]
          exact hA2.sublist (List.take_sublist _ _)
        rw [idsN_succ h, List.nodup_append] at e
        exact e.2.2 _ h1 _ (by simp) rfl
    · have hkl : k = n.sites.length := by omega
      subst hkl
      simp (disch := omega) [go_sem]
      refine callK_data (nin_spec n.sites.length 1 12) [] (by simp [go_sem]) (.inl rfl) (by simp [go_sem]) (fun _ => ?_)
      simp (disch := omega) [go_sem]
      rw [Bool.eq_iff_iff, decide_eq_true_iff (p := SitedOk n), inN_iff]
      refine ⟨fun hc => ⟨by omega, hnd, fun s hs => ?_⟩, fun hc => by have := hc.1; omega⟩
      obtain ⟨j, hj, rfl⟩ := List.getElem_of_mem hs
      exact hno j hj hj

/-! The layer net: subs. -/
theorem wfs_mem {α : Type} {f : α → V} : ∀ {l : List α}, wfs (l.map f) → ∀ x ∈ l, (f x).wf
  | y :: l, h, x, hx => by
    simp only [List.map_cons, wfs] at h
    rcases List.mem_cons.1 hx with rfl | hx
    · exact h.1
    · exact wfs_mem h.2 x hx
theorem nodup_len : ∀ (N : Nat) (l : List Int), l.Nodup → (∀ x ∈ l, 0 ≤ x ∧ x < N) → l.length ≤ N
  | 0, [], _, _ => by simp
  | 0, x :: l, _, h => by have := h x (by simp); omega
  | N + 1, l, hn, h => by
    have e : (l.erase (N : Int)).length ≤ N := nodup_len N _ (hn.erase _) fun x hx => by
      have h1 := (List.Nodup.mem_erase_iff hn).1 hx
      have h2 := h x h1.2
      have h3 := h1.1
      omega
    by_cases hm : (N : Int) ∈ l
    · rw [List.length_erase_of_mem hm] at e; omega
    · rw [List.erase_of_not_mem hm] at e; omega

def seenK (n : NetN) (k : Nat) : List Int := (n.subs.take k).flatMap SubN.sites
theorem seenK_succ {n : NetN} {k : Nat} (h : k < n.subs.length) : seenK n (k + 1) = seenK n k ++ n.subs[k].sites := by
  unfold seenK
  rw [List.take_succ_eq_append_getElem h, List.flatMap_append]; simp
def seenKM (n : NetN) (u : SubN) (k m : Nat) : List Int := seenK n k ++ u.sites.take m
theorem seenKM_succ {n : NetN} {u : SubN} {k m : Nat} (h : m < u.sites.length) : seenKM n u k (m + 1) = seenKM n u k m ++ [u.sites[m]] := by
  unfold seenKM
  rw [List.take_succ_eq_append_getElem h, List.append_assoc]
def rangeOk (n : NetN) (l : List Int) : Prop := ∀ x ∈ l, 0 ≤ x ∧ x < n.sites.length
def seenOk (n : NetN) (l : List Int) : Prop := l.Nodup ∧ rangeOk n l
def SubbedOk (n : NetN) : Prop := (1 ≤ n.subs.length ∧ n.subs.length ≤ 6) ∧ seenOk n (seenK n n.subs.length) ∧ (∀ u ∈ n.subs, u.critical ∈ u.sites) ∧ (seenK n n.subs.length).length = n.sites.length
noncomputable instance (n : NetN) : Decidable (SubbedOk n) := Classical.propDecidable _
theorem seenOk_prefix {n : NetN} {l r : List Int} (h : seenOk n (l ++ r)) : seenOk n l :=
  ⟨(List.nodup_append.1 h.1).1, fun x hx => h.2 x (by simp [hx])⟩
theorem seenK_pre (n : NetN) (k : Nat) (u : SubN) (hk : k < n.subs.length) (hu : n.subs[k] = u) (m : Nat) : ∃ r, seenK n n.subs.length = seenKM n u k m ++ r := by
  subst hu
  refine ⟨n.subs[k].sites.drop m ++ (n.subs.drop (k + 1)).flatMap SubN.sites, ?_⟩
  have e : n.subs.take n.subs.length = n.subs.take k ++ n.subs[k] :: n.subs.drop (k + 1) := by
    rw [List.take_length]
    conv => lhs; rw [← List.take_append_drop k n.subs, List.drop_eq_getElem_cons hk]
  unfold seenK seenKM
  rw [e, List.flatMap_append, List.flatMap_cons]
  unfold seenK
  rw [List.append_assoc, ← List.append_assoc (n.subs[k].sites.take m), List.take_append_drop]

def subInv (n : NetN) (k : Nat) : Prop := k ≤ n.subs.length ∧ seenOk n (seenK n k) ∧ ∀ j (h : j < n.subs.length), j < k → n.subs[j].critical ∈ n.subs[j].sites

set_option maxHeartbeats 2000000 in
theorem subbed_spec (n : NetN) : FnD Tryz.prog 54 [netV n] (.bool (decide (SubbedOk n))) := by
  have hp1 := sits_pure n.sites
  have hp2 := subs_pure n.subs
  have hp3 := weds_pure n.weds
  unfold netV
  refine fnD_of mixed Tryz.func54 rfl rfl (by simp [Tryz.ntmps54]) fun hwf E => ?_
  simp (disch := omega) [go_sem] at hwf
  simp (disch := omega) [Tryz.ntmps54, go_sem]
  refine awz_loop mixed (fun k : Nat => ⟨[(12, .int .i64 k), (11, .int .i64 n.subs.length), (10, .sl 2 (n.subs.map subV)), (3, .mp 32), (1, .ptr 0 1 0 0), (2, .bool false)], [(32, ⟨.map, 157, 1, marks (seenK n k)⟩), (0, ⟨.box, 26, 6, [netV n]⟩)], 1024, [], 57, 0, []⟩)
    (subInv n) (fun k => n.subs.length - k) 0 ⟨by omega, by simp [seenK, seenOk, rangeOk], fun j h hj => by omega⟩ ?_ ?_
  · refine Le.mk [(0, some 0), (32, some 32)] [0, 32] ⟨rfl, rfl, rfl⟩ ?_ ?_ ?_ <;> simp [go_sem, netV, hp1, hp2, hp3, seenK, marks]
  · rintro k ⟨hk, hs, hno⟩
    simp (disch := omega) [go_sem, netV]
    refine br_of (fun h => ?_) (fun h => ?_) <;> simp at h
    · have he : nth (n.subs.map subV) k = subV n.subs[k] := nth_map h
      have hnok := fun j hj hjk => hno j hj hjk
      have hcrit : n.subs[k].critical ∈ n.subs[k].sites ∨ ¬ n.subs[k].critical ∈ n.subs[k].sites := Classical.em _
      have hpre := seenK_pre n k n.subs[k] h rfl
      have hsucc := seenK_succ h
      have hmem : n.subs[k] ∈ n.subs := List.getElem_mem h
      have hull : n.subs[k].sites.length ≤ 140737488355328 := by
        have := wfs_mem hwf.2.1.2 _ hmem
        simp [subV, go_sem, ints_len] at this
        omega
      simp (disch := omega) [go_sem, h, he, subV, ints_len]
      generalize hu : n.subs[k] = u at *
      have hp4 := ints_pure u.sites
      refine awz_loop mixed (fun m : Nat => ⟨[(19, .int .i64 m), (18, .int .i64 u.sites.length), (17, .sl 1 (ints u.sites)), (5, .ptr 512 1 0 0), (12, .int .i64 k), (11, .int .i64 n.subs.length), (10, .sl 2 (n.subs.map subV)), (3, .mp 32), (1, .ptr 0 1 0 0), (2, .bool false)], [(512, ⟨.box, 84, 2, [subV u]⟩), (32, ⟨.map, 157, 1, marks (seenKM n u k m)⟩), (0, ⟨.box, 26, 6, [netV n]⟩)], 2048, [], 57, 0, []⟩)
        (fun m => m ≤ u.sites.length ∧ seenOk n (seenKM n u k m)) (fun m => u.sites.length - m) 0 ⟨by omega, by simpa [seenKM] using hs⟩ ?_ ?_
      · refine Le.mk [(0, some 0), (32, some 32), (512, some 1072)] [0, 32, 1072] ⟨rfl, rfl, rfl⟩ ?_ ?_ ?_ <;> simp [go_sem, netV, subV, hp1, hp2, hp3, hp4, seenKM, marks_pure]
      · rintro m ⟨hm, hsm⟩
        simp (disch := omega) [go_sem, netV, subV]
        refine br_of (fun h2 => ?_) (fun h2 => ?_) <;> simp at h2
        · simp (disch := omega) [go_sem, h2, nth_ints, ints_len, netV, subV]
          refine callK_bool (nin_spec u.sites[m] 0 ((n.sites.length : Int) - 1)) [] (by simp [go_sem]) (fun h3 => ?_) (fun h3 => ?_)
          · simp (disch := omega) [go_sem, mfind_marks, markV_get]
            refine br_of (fun h4 => ?_) (fun h4 => ?_) <;> simp at h4
            · simp (disch := omega) [go_sem]
              intro hA
              obtain ⟨r, hr⟩ := hpre (m + 1)
              have hx := hA.2.1
              rw [hr] at hx
              have hx2 := (seenOk_prefix hx).1
              rw [seenKM_succ h2, List.nodup_append] at hx2
              exact hx2.2.2 _ h4 _ (by simp) rfl
            · have hm2 := mput_marks _ _ h4
              have e := seenKM_succ (n := n) (k := k) h2
              rw [inN_iff] at h3
              have hsm2 : seenOk n (seenKM n u k (m + 1)) := by
                rw [e]
                refine ⟨?_, fun x hx => ?_⟩
                · rw [List.nodup_append]
                  refine ⟨hsm.1, by simp, fun a ha b hb => ?_⟩
                  simp only [List.mem_singleton] at hb
                  subst hb
                  exact fun e => h4 (e ▸ ha)
                · rcases List.mem_append.1 hx with hx | hx
                  · exact hsm.2 x hx
                  · simp only [List.mem_singleton] at hx
                    subst hx; omega
              have hl := nodup_len _ _ hsm2.1 hsm2.2
              rw [e, List.length_append] at hl
              simp only [List.length_cons, List.length_nil] at hl
              simp (disch := omega) [go_sem, hm2, marks_len]
              refine ⟨by omega, ?_⟩
              refine round_of (m + 1) ⟨by omega, ?_⟩ (by omega) (Le.mk [(0, some 0), (32, some 32), (512, some 512)] [0, 32, 512] ⟨rfl, rfl, rfl⟩ ?_ ?_ ?_)
              · exact hsm2
              all_goals simp [go_sem, netV, subV, hp1, hp2, hp3, hp4, e, marks_pure]
          · simp (disch := omega) [go_sem]
            intro hA
            obtain ⟨r, hr⟩ := hpre (m + 1)
            have hx := hA.2.1
            rw [hr] at hx
            have hx2 := (seenOk_prefix hx).2 u.sites[m] (by rw [seenKM_succ h2]; simp)
            rw [inN_iff.2 ⟨hx2.1, by omega⟩] at h3
            cases h3
        · have hml : m = u.sites.length := by omega
          subst hml
          simp (disch := omega) [go_sem, netV, subV]
          refine callK_bool (contains_spec u.sites u.critical) [] (by simp [go_sem, ints_pure]) (fun h3 => ?_) (fun h3 => ?_)
          · simp (disch := omega) [go_sem]
            refine round_of (k + 1) ⟨by omega, ?_, fun j hj hjk => ?_⟩ (by omega) (Le.mk [(0, some 0), (32, some 32)] [0, 32] ⟨rfl, rfl, rfl⟩ ?_ ?_ ?_)
            · rw [hsucc]
              simpa [seenKM] using hsm
            · by_cases e2 : j = k
              · subst e2; rw [hu]; simpa using h3
              · exact hno j hj (by omega)
            all_goals simp [go_sem, netV, hp1, hp2, hp3, hsucc, marks_pure, seenKM]
          · simp (disch := omega) [go_sem]
            intro hA
            have := hA.2.2.1 u hmem
            simp [this] at h3
    · have hkl : k = n.subs.length := by omega
      subst hkl
      simp (disch := omega) [go_sem]
      refine callK_bool (nin_spec n.subs.length 1 6) [] (by simp [go_sem]) (fun h1 => ?_) (fun h1 => ?_)
      · simp (disch := omega) [go_sem, marks_len]
        rw [inN_iff] at h1
        rw [Bool.eq_iff_iff, decide_eq_true_iff (p := SubbedOk n)]
        simp only [beq_iff_eq]
        refine ⟨fun hc => ⟨by omega, hs, fun u hu => ?_, by omega⟩, fun hc => by have := hc.2.2.2; omega⟩
        obtain ⟨j, hj, rfl⟩ := List.getElem_of_mem hu
        exact hno j hj hj
      · simp (disch := omega) [go_sem]
        intro hA
        rw [inN_iff.2 (by have := hA.1; omega)] at h1
        cases h1

/-! The layer net: weds. -/
def findQ (l : List Int) (q : Int → Bool) : Int := match l.findIdx? q with | some i => i | none => -1
theorem indexFunc_ints (l : List Int) (g : FuncId) (fst caps : List V) (q : Int → Bool) (hpf : pures fst) (hpc : pures caps) (hq : ∀ x ∈ l, FnD Tryz.prog g (fst ++ [.int .i64 x] ++ caps) (.bool (q x))) :
    FnD Tryz.prog 146 [.sl 1 (ints l), .func (.func g) fst caps] (.int .i64 (findQ l q)) := by
  have yes : ∀ k (h : k < l.length), (∀ j (hj : j < l.length), j < k → q l[j] = false) → q l[k] = true → (findQ l q) = k := by
    intro k h hno hk
    have : l.findIdx? q = some k := by
      rw [List.findIdx?_eq_some_iff_getElem]
      exact ⟨h, hk, fun j hj => by simp [hno j (by omega) hj]⟩
    simp [findQ, this]
  have no : (∀ j (hj : j < l.length), q l[j] = false) → (findQ l q) = -1 := by
    intro hno
    have : l.findIdx? q = none := by
      rw [List.findIdx?_eq_none_iff]
      intro x hx
      obtain ⟨j, hj, rfl⟩ := List.getElem_of_mem hx
      exact hno j hj
    simp [findQ, this]
  generalize (findQ l q) = res at *
  refine fnD_of mixed Tryz.func146 rfl rfl (by simp [Tryz.ntmps146]) fun hwf E => ?_
  simp (disch := omega) [go_sem, ints_len] at hwf
  simp (disch := omega) [Tryz.ntmps146, go_sem, ints_len]
  refine awz_loop mixed (fun k : Nat => ⟨[(0, .sl 1 (ints l)), (1, .func (.func g) fst caps), (7, .int .i64 l.length), (8, .int .i64 k), (4, .int .i64 0)], [], 1024, [], 19, 0, []⟩)
    (fun k => k ≤ l.length ∧ ∀ j (hj : j < l.length), j < k → q l[j] = false) (fun k => l.length - k) 0 (by simp) ?_ ?_
  · refine Le.mk [] [] ⟨rfl, rfl, rfl⟩ ?_ ?_ ?_ <;> simp [go_sem, vsLe_self, hpf, hpc, ints_pure]
  · rintro k ⟨hk, hno⟩
    simp (disch := omega) [go_sem]
    refine br_of (fun h => ?_) (fun h => ?_) <;> simp at h
    · have hm : l[k] ∈ l := List.getElem_mem h
      simp (disch := omega) [go_sem, h, ints_len, nth_ints]
      refine callK_data (hq _ hm) [] ?_ (.inl rfl) (by simp [go_sem]) fun hw => ?_
      · simp (disch := omega) [go_sem]
        have ha := argsLe_self (hp := AM.look []) (B := fun i => i ∈ ([] : List Nat)) (n := 8) (xs := fst ++ [.int .i64 l[k]] ++ caps) (by simp [go_sem, hpf, hpc])
        simpa [AM.look] using ha
      · simp (disch := omega) [go_sem]
        refine br_of (fun h2 => ?_) (fun h2 => ?_)
        · simp (disch := omega) [go_sem]
          exact (yes k h hno h2).symm
        · simp (disch := omega) [go_sem]
          refine round_of (k + 1) ⟨h, fun j hj hk' => ?_⟩ (by omega) (Le.mk [] [] ⟨rfl, rfl, rfl⟩ ?_ ?_ ?_)
          · by_cases e : j = k
            · subst e; exact h2
            · exact hno j hj (by omega)
          all_goals simp (disch := omega) [go_sem, vsLe_self, hpf, hpc, ints_pure]
    · simp (disch := omega) [go_sem]
      exact (no fun j hj => hno j hj (by omega)).symm
theorem find_any (l : List Int) (q : Int → Bool) : decide ((findQ l q) ≥ 0) = l.any q := by
  unfold findQ
  cases h : l.findIdx? q with
  | none =>
    have := List.findIdx?_eq_none_iff.1 h
    have : l.any q = false := by simpa using this
    simp [this]
  | some i =>
    obtain ⟨hi, hp, _⟩ := List.findIdx?_eq_some_iff_getElem.1 h
    have : l.any q = true := List.any_eq_true.2 ⟨_, List.getElem_mem hi, hp⟩
    simp [this]
theorem containsFunc_ints (l : List Int) (g : FuncId) (fst caps : List V) (q : Int → Bool) (hpf : pures fst) (hpc : pures caps) (hq : ∀ x ∈ l, FnD Tryz.prog g (fst ++ [.int .i64 x] ++ caps) (.bool (q x))) :
    FnD Tryz.prog 106 [.sl 1 (ints l), .func (.func g) fst caps] (.bool (l.any q)) := by
  refine fnD_of mixed Tryz.func106 rfl rfl (by simp [Tryz.ntmps106]) fun hwf E => ?_
  simp (disch := omega) [Tryz.ntmps106, go_sem] at hwf ⊢
  refine callK_data (indexFunc_ints l g fst caps q hpf hpc hq) [] ?_ (.inl rfl) (by simp [go_sem]) fun hw => ?_
  · simp [go_sem, hpf, hpc, ints_pure]
  · simp (disch := omega) [go_sem]
    simpa using find_any l q

theorem wedded1_spec (n : NetN) (x : Int) (hl : 1 ≤ n.low ∧ n.low ≤ 1048576) : FnD Tryz.prog 107 [.int .i64 x, .tptr 6 [netV n] 0 0] (.bool (!inN x 0 (n.low - 1))) := by
  unfold netV
  refine fnD_of mixed Tryz.func107 rfl rfl (by simp [Tryz.ntmps107]) fun hwf E => ?_
  simp (disch := omega) [Tryz.ntmps107, go_sem]
  refine callK_bool (nin_spec x 0 (n.low - 1)) [] (by simp [go_sem]) (fun h1 => ?_) (fun h1 => ?_) <;> simp (disch := omega) [go_sem, h1]

/-! sets of pairs -/
def marks2 (l : List (Int × Int)) : List V := l.map fun p => .tup [.agg [.int .i64 p.1, .int .i64 p.2], .bool true]
theorem marks2_len (l : List (Int × Int)) : (marks2 l).length = l.length := by simp [marks2]
theorem marks2_pure (l : List (Int × Int)) : pures (marks2 l) := pures_map _ (fun u => by simp [go_sem]) l
theorem mfind_marks2 (a b : Int) : ∀ (l : List (Int × Int)), mfind (.agg [.int .i64 a, .int .i64 b]) (marks2 l) = some (markV (decide ((a, b) ∈ l)))
  | [] => by simp [marks2, mfind, markV]
  | y :: l => by
    have ih := mfind_marks2 a b l
    unfold marks2 at ih ⊢
    simp only [List.map_cons, mfind, keyB, and_self, if_true]
    by_cases h : (a, b) = y
    · subst h; simp [markV]
    · have hb : (a == y.1 && b == y.2) = false := by
        obtain ⟨c, d⟩ := y
        simp only [Prod.mk.injEq] at h
        rw [Bool.and_eq_false_iff]
        by_cases e : a = c
        · right; simpa using fun e2 => h ⟨e, e2⟩
        · left; simpa using e
      simp only [hb, ih]
      simp [h]
theorem mput_marks2 (a b : Int) : ∀ (l : List (Int × Int)), (a, b) ∉ l → mput (.agg [.int .i64 a, .int .i64 b]) (.bool true) (marks2 l) = some (marks2 (l ++ [(a, b)]))
  | [], _ => by simp [marks2, mput]
  | y :: l, h => by
    simp only [List.mem_cons, not_or] at h
    have ih := mput_marks2 a b l h.2
    unfold marks2 at ih ⊢
    simp only [List.map_cons, List.cons_append, mput, keyB, and_self, if_true]
    have hb : (a == y.1 && b == y.2) = false := by
      obtain ⟨c, d⟩ := y
      have h1 := h.1
      simp only [Prod.mk.injEq] at h1
      rw [Bool.and_eq_false_iff]
      by_cases e : a = c
      · right; simpa using fun e2 => h1 ⟨e, e2⟩
      · left; simpa using e
    simp only [hb, ih]
    simp

def wedOk (n : NetN) (w : WedN) : Prop := 0 ≤ w.a ∧ w.a < w.b ∧ w.b < n.subs.length ∧ (1 ≤ w.votes ∧ w.votes ≤ 1048576) ∧ (1 ≤ w.offsets.length ∧ w.offsets.length ≤ 8) ∧ ∀ x ∈ w.offsets, 0 ≤ x ∧ x ≤ n.low - 1
def pairsK (n : NetN) (k : Nat) : List (Int × Int) := (n.weds.take k).map fun w => (w.a, w.b)
theorem pairsK_succ {n : NetN} {k : Nat} (h : k < n.weds.length) : pairsK n (k + 1) = pairsK n k ++ [(n.weds[k].a, n.weds[k].b)] := by
  unfold pairsK
  rw [List.take_succ_eq_append_getElem h, List.map_append]; rfl
theorem pairsK_len {n : NetN} {k : Nat} (h : k ≤ n.weds.length) : (pairsK n k).length = k := by unfold pairsK; rw [List.length_map, List.length_take]; omega
theorem pairsK_nodup {n : NetN} {k : Nat} (hA : (pairsK n n.weds.length).Nodup) (hk : k ≤ n.weds.length) : (pairsK n k).Nodup := by
  have : pairsK n k = (pairsK n n.weds.length).take k := by
    unfold pairsK
    rw [← List.map_take, List.take_take, Nat.min_eq_left hk]
  rw [this]
  exact hA.sublist (List.take_sublist _ _)
def WeddedOk (n : NetN) : Prop := n.weds.length ≤ 8 ∧ (pairsK n n.weds.length).Nodup ∧ ∀ w ∈ n.weds, wedOk n w
noncomputable instance (n : NetN) : Decidable (WeddedOk n) := Classical.propDecidable _
def wedInv (n : NetN) (k : Nat) : Prop := k ≤ n.weds.length ∧ (pairsK n k).Nodup ∧ ∀ j (h : j < n.weds.length), j < k → wedOk n n.weds[j]

set_option maxHeartbeats 2000000 in
theorem wedded_spec (n : NetN) (hl : 1 ≤ n.low ∧ n.low ≤ 1048576) : FnD Tryz.prog 55 [netV n] (.bool (decide (WeddedOk n))) := by
  have hp1 := sits_pure n.sites
  have hp2 := subs_pure n.subs
  have hp3 := weds_pure n.weds
  have hw1 := fun x => wedded1_spec n x hl
  have hnv : netV n = .agg [.sl 12 (n.sites.map sitV), .sl 2 (n.subs.map subV), .sl 4 (n.weds.map wedV), .int .i64 n.low, .int .i64 n.high, .int .i64 n.step] := rfl
  rw [hnv] at hw1 ⊢
  refine fnD_of mixed Tryz.func55 rfl rfl (by simp [Tryz.ntmps55]) fun hwf E => ?_
  simp (disch := omega) [go_sem] at hwf
  simp (disch := omega) [Tryz.ntmps55, go_sem]
  refine awz_loop mixed (fun k : Nat => ⟨[(11, .int .i64 k), (10, .int .i64 n.weds.length), (9, .sl 4 (n.weds.map wedV)), (3, .mp 32), (1, .ptr 0 1 0 0), (2, .bool false)], [(32, ⟨.map, 158, 1, marks2 (pairsK n k)⟩), (0, ⟨.box, 26, 6, [netV n]⟩)], 1024, [], 67, 0, []⟩)
    (wedInv n) (fun k => n.weds.length - k) 0 ⟨by omega, by simp [pairsK], fun j h hj => by omega⟩ ?_ ?_
  · refine Le.mk [(0, some 0), (32, some 32)] [0, 32] ⟨rfl, rfl, rfl⟩ ?_ ?_ ?_ <;> simp [go_sem, netV, hp1, hp2, hp3, pairsK, marks2]
  · rintro k ⟨hk, hnd, hno⟩
    simp (disch := omega) [go_sem, netV]
    refine br_of (fun h => ?_) (fun h => ?_) <;> simp at h
    · have he : nth (n.weds.map wedV) k = wedV n.weds[k] := nth_map h
      have hmem : n.weds[k] ∈ n.weds := List.getElem_mem h
      have hsucc := pairsK_succ h
      have hlen := pairsK_len hk
      have hull : n.weds[k].offsets.length ≤ 140737488355328 := by
        have := wfs_mem hwf.2.2.1.2 _ hmem
        simp [wedV, go_sem, ints_len] at this
        omega
      simp (disch := omega) [go_sem, h, he, wedV, ints_len]
      generalize hu : n.weds[k] = u at *
      have badA : ¬ wedOk n u → WeddedOk n → False := fun hb hA => hb (hA.2.2 _ hmem)
      refine gbr_of (fun h1 => ?_) (fun h1 => ?_)
      · simp at h1
        have e1 : decide (u.a < 0) = false := by simp; omega
        have e2 : decide (u.b ≤ u.a) = false := by simp; omega
        have e3 : decide ((n.subs.length : Int) ≤ u.b) = false := by simp; omega
        simp (disch := omega) [go_sem, e1, e2, e3, mfind_marks2, markV_get]
        by_cases h2 : (u.a, u.b) ∈ pairsK n k
        · simp (disch := omega) [go_sem, h2]
          intro hA
          have hx := pairsK_nodup hA.2.1 (show k + 1 ≤ n.weds.length by omega)
          rw [hsucc, List.nodup_append] at hx
          exact hx.2.2 _ h2 _ (by simp) rfl
        · simp (disch := omega) [go_sem, h2]
          refine callK_bool (nin_spec u.votes 1 1048576) [] (by simp [go_sem]) (fun h3 => ?_) (fun h3 => ?_)
          · rw [inN_iff] at h3
            simp (disch := omega) [go_sem, ints_len]
            refine callK_bool (nin_spec u.offsets.length 1 8) [] (by simp [go_sem]) (fun h4 => ?_) (fun h4 => ?_)
            · rw [inN_iff] at h4
              simp (disch := omega) [go_sem, ints_len]
              have hq := containsFunc_ints u.offsets 107 [] [.tptr 6 [netV n] 0 0] (fun x => !inN x 0 (n.low - 1)) (by simp [go_sem]) (by simp [go_sem]) (fun x _ => by simpa [hnv] using hw1 x)
              rw [hnv] at hq
              refine callK_bool hq [0] (by simp [go_sem, ints_pure, hp1, hp2, hp3]) (fun h5 => ?_) (fun h5 => ?_)
              · simp (disch := omega) [go_sem]
                refine badA fun hb => ?_
                simp only [List.any_eq_true] at h5
                obtain ⟨x, hx, h6⟩ := h5
                have := inN_iff.2 (hb.2.2.2.2.2 x hx)
                rw [this] at h6; cases h6
              · have hok : wedOk n u := ⟨by omega, by omega, by omega, h3, by omega, fun x hx => by
                  have := List.any_eq_false.1 h5 x hx
                  simp only [Bool.not_eq_true', Bool.not_eq_false] at this
                  exact inN_iff.1 this⟩
                have hm := mput_marks2 u.a u.b _ h2
                simp (disch := omega) [go_sem, hm, marks2_len, hlen]
                refine ⟨by omega, ?_⟩
                refine round_of (k + 1) ⟨by omega, ?_, fun j hj hjk => ?_⟩ (by omega) (Le.mk [(0, some 0), (32, some 32)] [0, 32] ⟨rfl, rfl, rfl⟩ ?_ ?_ ?_)
                · rw [hsucc, List.nodup_append]
                  refine ⟨hnd, by simp, fun a ha b hb => ?_⟩
                  simp only [List.mem_singleton] at hb
                  subst hb
                  exact fun e => h2 (e ▸ ha)
                · by_cases e2 : j = k
                  · subst e2; rw [hu]; exact hok
                  · exact hno j hj (by omega)
                all_goals simp [go_sem, netV, hp1, hp2, hp3, hsucc, marks2_pure]
            · simp (disch := omega) [go_sem]
              refine badA fun hb => ?_
              rw [inN_iff.2 (by have := hb.2.2.2.2.1; omega)] at h4; cases h4
          · simp (disch := omega) [go_sem]
            refine badA fun hb => ?_
            rw [inN_iff.2 hb.2.2.2.1] at h3; cases h3
      · have ht : (decide (u.a < 0) || decide (u.b ≤ u.a) || decide ((n.subs.length : Int) ≤ u.b)) = true := by
          revert h1
          cases decide (u.a < 0) <;> cases decide (u.b ≤ u.a) <;> cases decide ((n.subs.length : Int) ≤ u.b) <;> simp
        have hcond : ¬ wedOk n u := fun hb => by
          obtain ⟨b1, b2, b3, _⟩ := hb
          simp at ht
          omega
        simp (disch := omega) [go_sem, h1, ht]
        exact badA hcond
    · have hkl : k = n.weds.length := by omega
      subst hkl
      simp (disch := omega) [go_sem]
      refine ⟨fun hc => ⟨by omega, hnd, fun s hs => ?_⟩, fun hc => by have := hc.1; omega⟩
      obtain ⟨j, hj, rfl⟩ := List.getElem_of_mem hs
      exact hno j hj hj

/-! The layer net: Check. -/
def NetOk (n : NetN) : Prop := TimedOk n ∧ SitedOk n ∧ SubbedOk n ∧ WeddedOk n
noncomputable instance (n : NetN) : Decidable (NetOk n) := Classical.propDecidable _
noncomputable def netN (n : NetN) : Int := if NetOk n then 0 else 60
theorem netN_ok {n : NetN} (h : NetOk n) : netN n = 0 := by unfold netN; rw [if_pos h]
theorem netN_bad {n : NetN} (h : ¬ NetOk n) : netN n = 60 := by unfold netN; rw [if_neg h]
def mays : List V := [.func (.func 52) [] [], .func (.func 53) [] [], .func (.func 54) [] [], .func (.func 55) [] []]
def nchk (n : NetN) : Nat → Prop
  | 0 => TimedOk n
  | 1 => SitedOk n
  | 2 => SubbedOk n
  | _ => WeddedOk n

set_option maxHeartbeats 2000000 in
theorem ncheck_spec (n : NetN) : FnD Tryz.prog 25 [netV n] (.int .i64 (netN n)) tabG := by
  have hp1 := sits_pure n.sites
  have hp2 := subs_pure n.subs
  have hp3 := weds_pure n.weds
  have q0 := ntimed_spec n
  have q1 := sited_spec n
  have q2 := subbed_spec n
  have q3 := fun h => wedded_spec n h
  have hnv : netV n = .agg [.sl 12 (n.sites.map sitV), .sl 2 (n.subs.map subV), .sl 4 (n.weds.map wedV), .int .i64 n.low, .int .i64 n.high, .int .i64 n.step] := rfl
  rw [hnv] at q0 q1 q2 q3 ⊢
  refine fnD_of mixed Tryz.func25 rfl rfl (by simp [Tryz.ntmps25]) fun hwf E => ?_
  simp (disch := omega) [go_sem] at hwf
  simp (disch := omega) [Tryz.ntmps25, go_sem]
  have bad : (¬ TimedOk n ∨ ¬ SitedOk n ∨ ¬ SubbedOk n ∨ ¬ WeddedOk n) → netN n = 60 := fun h => netN_bad fun hA => by
    obtain ⟨a, b, c, d⟩ := hA
    rcases h with h | h | h | h <;> exact h (by assumption)
  refine awz_loop mixed (fun k : Nat => ⟨[(7, .int .i64 k), (6, .int .i64 4), (5, .obj 32 4), (1, .ptr 0 1 0 0), (2, .int .i64 0)], [(32, ⟨.arr, 36, 1, mays⟩), (0, ⟨.box, 26, 6, [netV n]⟩)], 1024, [], 16, 0, tabG⟩)
    (fun k => k ≤ 4 ∧ ∀ i, i < k → nchk n i) (fun k => 4 - k) 0 ⟨by omega, fun a ha => by omega⟩ ?_ ?_
  · refine Le.mk [(0, some 0), (32, some 32)] [0, 32] ⟨rfl, rfl, rfl⟩ ?_ ?_ ?_ <;> simp [go_sem, netV, hp1, hp2, hp3, mays]
  · rintro k ⟨hk, hno⟩
    have hcases : k = 0 ∨ k = 1 ∨ k = 2 ∨ k = 3 ∨ k = 4 := by omega
    rcases hcases with rfl | rfl | rfl | rfl | rfl
    · simp (disch := omega) [go_sem, netV, mays]
      refine callK_bool q0 [] (by simp [go_sem, hp1, hp2, hp3]) (fun h1 => ?_) (fun h1 => ?_)
      · simp (disch := omega) [go_sem]
        refine round_of 1 ⟨by omega, fun i hi => ?_⟩ (by omega) (Le.mk [(0, some 0), (32, some 32)] [0, 32] ⟨rfl, rfl, rfl⟩ ?_ ?_ ?_)
        · obtain rfl : i = 0 := by omega
          exact (decide_eq_true_iff.1 h1 :)
        all_goals simp [go_sem, netV, hp1, hp2, hp3, mays]
      · simp (disch := omega) [go_sem]
        exact (bad (.inl (of_decide_eq_false h1))).symm
    · simp (disch := omega) [go_sem, netV, mays]
      refine callK_bool q1 [] (by simp [go_sem, hp1, hp2, hp3]) (fun h1 => ?_) (fun h1 => ?_) (by simp [tabG, go_sem])
      · simp (disch := omega) [go_sem]
        refine round_of 2 ⟨by omega, fun i hi => ?_⟩ (by omega) (Le.mk [(0, some 0), (32, some 32)] [0, 32] ⟨rfl, rfl, rfl⟩ ?_ ?_ ?_)
        · by_cases e : i = 1
          · subst e; exact (decide_eq_true_iff.1 h1 :)
          · exact hno i (by omega)
        all_goals simp [go_sem, netV, hp1, hp2, hp3, mays]
      · simp (disch := omega) [go_sem]
        exact (bad (.inr (.inl (of_decide_eq_false h1)))).symm
    · simp (disch := omega) [go_sem, netV, mays]
      refine callK_bool q2 [] (by simp [go_sem, hp1, hp2, hp3]) (fun h1 => ?_) (fun h1 => ?_)
      · simp (disch := omega) [go_sem]
        refine round_of 3 ⟨by omega, fun i hi => ?_⟩ (by omega) (Le.mk [(0, some 0), (32, some 32)] [0, 32] ⟨rfl, rfl, rfl⟩ ?_ ?_ ?_)
        · by_cases e : i = 2
          · subst e; exact (decide_eq_true_iff.1 h1 :)
          · exact hno i (by omega)
        all_goals simp [go_sem, netV, hp1, hp2, hp3, mays]
      · simp (disch := omega) [go_sem]
        exact (bad (.inr (.inr (.inl (of_decide_eq_false h1))))).symm
    · have h0 : TimedOk n := hno 0 (by omega)
      simp (disch := omega) [go_sem, netV, mays]
      refine callK_bool (q3 h0.1) [] (by simp [go_sem, hp1, hp2, hp3]) (fun h1 => ?_) (fun h1 => ?_)
      · simp (disch := omega) [go_sem]
        refine round_of 4 ⟨by omega, fun i hi => ?_⟩ (by omega) (Le.mk [(0, some 0), (32, some 32)] [0, 32] ⟨rfl, rfl, rfl⟩ ?_ ?_ ?_)
        · by_cases e : i = 3
          · subst e; exact (decide_eq_true_iff.1 h1 :)
          · exact hno i (by omega)
        all_goals simp [go_sem, netV, hp1, hp2, hp3, mays]
      · simp (disch := omega) [go_sem]
        exact (bad (.inr (.inr (.inr (of_decide_eq_false h1))))).symm
    · simp (disch := omega) [go_sem]
      exact (netN_ok ⟨hno 0 (by omega), hno 1 (by omega), hno 2 (by omega), hno 3 (by omega)⟩).symm

/-! the cycles -/
def cycK (n : NetN) : Nat := ((n.high - n.low) / n.step).toNat
def cycAt (n : NetN) (i : Nat) : Int := n.low + n.step * i
def cycN (n : NetN) (k : Nat) : List Int := (List.range k).map (cycAt n)
theorem cycN_succ (n : NetN) (k : Nat) : cycN n (k + 1) = cycN n k ++ [cycAt n k] := by simp [cycN, List.range_succ]
theorem cycN_len (n : NetN) (k : Nat) : (cycN n k).length = k := by simp [cycN]
theorem TimedOk.q {n : NetN} (h : TimedOk n) : n.step * cycK n = n.high - n.low ∧ cycK n ≤ 64 := by
  obtain ⟨h1, h2, h3, h4, h5⟩ := h
  have hq : (n.high - n.low).tdiv n.step = (n.high - n.low) / n.step := Int.tdiv_eq_ediv_of_nonneg (by omega)
  have hr : (n.high - n.low).tmod n.step = (n.high - n.low) % n.step := Int.tmod_eq_emod_of_nonneg (by omega)
  have hq0 : 0 ≤ (n.high - n.low) / n.step := Int.ediv_nonneg (by omega) (by omega)
  rw [hq] at h5
  rw [hr] at h4
  have e : ((cycK n : Nat) : Int) = (n.high - n.low) / n.step := by unfold cycK; omega
  constructor
  · rw [e]
    exact Int.mul_ediv_cancel_of_emod_eq_zero h4
  · omega
theorem TimedOk.at {n : NetN} (h : TimedOk n) {i : Nat} : cycAt n i ≤ n.high ↔ i ≤ cycK n := by
  have hq := h.q.1
  have hs := h.2.2.1.1
  unfold cycAt
  constructor
  · intro h1
    apply Classical.byContradiction
    intro h2
    have : n.step * ((cycK n : Int) + 1) ≤ n.step * i := Int.mul_le_mul_of_nonneg_left (by omega) (by omega)
    rw [Int.mul_add] at this
    omega
  · intro h1
    have : n.step * (i : Int) ≤ n.step * (cycK n : Int) := Int.mul_le_mul_of_nonneg_left (by omega) (by omega)
    omega
theorem TimedOk.at_bound {n : NetN} (h : TimedOk n) {i : Nat} (hi : i ≤ cycK n + 1) : 1 ≤ cycAt n i ∧ cycAt n i ≤ 2097152 := by
  have hq := h.q.1
  have hs := h.2.2.1
  have h2 : n.step * (i : Int) ≤ n.step * ((cycK n : Int) + 1) := Int.mul_le_mul_of_nonneg_left (by omega) (by omega)
  have h3 : 0 ≤ n.step * (i : Int) := Int.mul_nonneg (by omega) (by omega)
  rw [Int.mul_add] at h2
  have := h.1
  have := h.2.1
  unfold cycAt
  omega

/-! The layer net: Cycles. -/
noncomputable def allCyc (n : NetN) : List Int := if NetOk n then cycN n (cycK n + 1) else []
theorem allCyc_ok {n : NetN} (h : NetOk n) : allCyc n = cycN n (cycK n + 1) := by unfold allCyc; rw [if_pos h]
theorem allCyc_bad {n : NetN} (h : ¬ NetOk n) : allCyc n = [] := by unfold allCyc; rw [if_neg h]
def cyF (n : NetN) : Nat → St
  | 0 => ⟨[(6, .int .i64 n.low), (5, .nilS), (1, .ptr 0 1 0 0), (2, .nilS), (3, .int .i64 0)], [(0, ⟨.box, 26, 6, [netV n]⟩)], 1024, [], 27, 0, tabG⟩
  | k + 1 => ⟨[(6, .int .i64 (cycAt n (k + 1))), (5, .obj 512 (k + 1)), (1, .ptr 0 1 0 0), (2, .nilS), (3, .int .i64 0)], [(512, ⟨.arr, 3, 1, ints (cycN n (k + 1))⟩), (0, ⟨.box, 26, 6, [netV n]⟩)], 1024, [], 27, 0, tabG⟩

theorem ints_app (a b : List Int) : ints (a ++ b) = ints a ++ ints b := by simp [ints]
set_option maxHeartbeats 1000000 in
theorem cycles_spec (n : NetN) : FnD Tryz.prog 87 [netV n] (.tup [.sl 1 (ints (allCyc n)), .int .i64 (netN n)]) tabG := by
  have hp1 := sits_pure n.sites
  have hp2 := subs_pure n.subs
  have hp3 := weds_pure n.weds
  have hc := ncheck_spec n
  have hnv : netV n = .agg [.sl 12 (n.sites.map sitV), .sl 2 (n.subs.map subV), .sl 4 (n.weds.map wedV), .int .i64 n.low, .int .i64 n.high, .int .i64 n.step] := rfl
  rw [hnv] at hc ⊢
  refine fnD_of mixed Tryz.func87 rfl rfl (by simp [Tryz.ntmps87]) fun hwf E => ?_
  simp (disch := omega) [Tryz.ntmps87, go_sem]
  refine callK_data hc [] (by simp [go_sem, hp1, hp2, hp3]) (.inl rfl) (by simp [go_sem]) (fun _ => ?_) (by simp [tabG, go_sem])
  by_cases hOk : NetOk n
  · rw [netN_ok hOk, allCyc_ok hOk]
    have hT := hOk.1
    have hq := hT.q
    simp (disch := omega) [go_sem]
    refine awz_loop mixed (cyF n) (fun k => k ≤ cycK n + 1) (fun k => cycK n + 1 - k) 0 (by simp) ?_ ?_
    · refine Le.mk [(0, some 0)] [0] ⟨rfl, rfl, rfl⟩ ?_ ?_ ?_ <;> simp [go_sem, cyF, netV, hp1, hp2, hp3]
    · rintro k hk
      cases k with
      | zero =>
        have h0 := hT.2.1
        have hb := hT.at_bound (i := 1) (by omega)
        have e : cycAt n 1 = n.low + n.step := by simp [cycAt]
        have e0 : cycAt n 0 = n.low := by simp [cycAt]
        rw [e] at hb
        simp (disch := omega) [go_sem, cyF, netV]
        refine br_of (fun h => ?_) (fun h => ?_) <;> simp at h
        · simp (disch := omega) [go_sem]
          refine round_of 1 (by omega) (by omega) (Le.mk [(0, some 0), (512, some 1136)] [0, 1136] ⟨rfl, rfl, rfl⟩ ?_ ?_ ?_) <;> simp [go_sem, cyF, netV, hp1, hp2, hp3, e, e0, cycN, ints]
        · omega
      | succ k =>
        have hb := hT.at_bound (i := k + 1) (by omega)
        have ha := hT.at (i := k + 1)
        have hs := cycN_succ n (k + 1)
        simp (disch := omega) [go_sem, cyF, netV]
        refine br_of (fun h => ?_) (fun h => ?_) <;> simp at h
        · simp (disch := omega) [go_sem, ints_len, cycN_len]
          refine ⟨by omega, ?_⟩
          have e : cycAt n (k + 1) + n.step = cycAt n (k + 1 + 1) := by
            unfold cycAt
            rw [show ((k + 1 + 1 : Nat) : Int) = ((k + 1 : Nat) : Int) + 1 by omega, Int.mul_add]; omega
          have hb2 := hT.at_bound (i := k + 1 + 1) (by omega)
          have hs2 : ints (cycN n (k + 1 + 1)) = ints (cycN n (k + 1)) ++ [.int .i64 (cycAt n (k + 1))] := by rw [hs, ints_app]; rfl
          rw [e, i64_wrap (by omega) (by omega)]
          refine round_of (k + 1 + 1) (by omega) (by omega) (Le.mk [(0, some 0), (512, some 512)] [0, 512] ⟨rfl, rfl, rfl⟩ ?_ ?_ ?_) <;> simp [go_sem, cyF, netV, hp1, hp2, hp3, hs2, ints_pure]
        · have hkk : k = cycK n := by omega
          subst hkk
          simp (disch := omega) [go_sem, ints_len, cycN_len]
          exact argsLe_self (ints_pure _)
  · rw [netN_bad hOk, allCyc_bad hOk]
    simp (disch := omega) [go_sem, ints]
end Go.Proofs.YtpijmanjjhpkiaaGreatDoor

namespace Go.Proofs.YtpijmanjjhpkiaaGreatDoor
open Go.AM Go.RowKit
set_option maxRecDepth 100000

def inM (n : Int) : Bool := decide (0 ≤ n) && decide (n ≤ 1048576)
theorem inM_iff {n : Int} : inM n = true ↔ 0 ≤ n ∧ n ≤ 1048576 := by simp [inM]
theorem span1_spec (n : Int) : FnD Tryz.prog 147 [.int .i64 n] (.bool (decide (n < 0) || decide (n > 1048576))) := by
  refine fnD_of mixed Tryz.func147 rfl rfl (by simp [Tryz.ntmps147]) fun hwf E => ?_
  simp [Tryz.ntmps147, go_sem]
theorem span_spec (l : List Int) : FnD Tryz.prog 110 [.sl 1 (ints l)] (.bool (l.all inM)) := by
  refine fnD_of mixed Tryz.func110 rfl rfl (by simp [Tryz.ntmps110]) fun hwf E => ?_
  simp (disch := omega) [Tryz.ntmps110, go_sem] at hwf ⊢
  refine callK_data (containsFunc_ints l 147 [] [] (fun n => decide (n < 0) || decide (n > 1048576)) (by simp [go_sem]) (by simp [go_sem]) (fun x _ => span1_spec x)) [] ?_ (.inl rfl) (by simp [go_sem]) fun hw => ?_
  · simp [go_sem, ints_pure]
  · simp (disch := omega) [go_sem]
    unfold inM
    rw [Bool.eq_iff_iff]
    simp
    constructor
    · rintro ⟨x, hx, h⟩
      exact ⟨x, hx, by omega⟩
    · rintro ⟨x, hx, h⟩
      exact ⟨x, hx, by omega⟩

def voteV (r : Int × Int × Int) : V := .agg [.int .i64 r.1, .int .i64 r.2.1, .int .i64 r.2.2]
/-- A vote that may be, behind a wish (the plain law): its Now, Wish and Many. -/
def heardN (now wish0 many wish need : Int) : Int × Int × Int :=
  if wish = now then (now, now, 0)
  else if wish = wish0 ∧ 0 < many then if need ≤ many + 1 then (wish, wish, 0) else (now, wish, many + 1)
  else if need ≤ 1 then (wish, wish, 0) else (now, wish, 1)
/-- A vote behind a wish, and the error. -/
def tallyN (now wish0 many wish need : Int) : (Int × Int × Int) × Int :=
  if (!inM now || (!inM wish0 || (!inM many || (!inM wish || !inM need))) || need == 0) = true then ((0, 0, 0), 2)
  else (heardN now wish0 many wish need, 0)
def voteE (r : (Int × Int × Int) × Int) : V := .tup [voteV r.1, .int .i64 r.2]

section
variable {now wish0 many wish need : Int}
theorem tallyN_bad (h : (!inM now || (!inM wish0 || (!inM many || (!inM wish || !inM need))) || need == 0) = true) : tallyN now wish0 many wish need = ((0, 0, 0), 2) := by
  simp only [tallyN, h, if_true]
theorem tallyN_ok (h : (!inM now || (!inM wish0 || (!inM many || (!inM wish || !inM need))) || need == 0) = false) : tallyN now wish0 many wish need = (heardN now wish0 many wish need, 0) := by
  simp only [tallyN, h, Bool.false_eq_true, if_false]
theorem heardN_eq (h1 : wish = now) : heardN now wish0 many wish need = (now, now, 0) := by
  simp only [heardN, if_pos h1]
theorem heardN_up (h1 : ¬ wish = now) (h2 : wish = wish0 ∧ 0 < many) (h3 : need ≤ many + 1) : heardN now wish0 many wish need = (wish, wish, 0) := by
  simp only [heardN, if_neg h1, if_pos h2, if_pos h3]
theorem heardN_more (h1 : ¬ wish = now) (h2 : wish = wish0 ∧ 0 < many) (h3 : many + 1 < need) : heardN now wish0 many wish need = (now, wish, many + 1) := by
  simp only [heardN, if_neg h1, if_pos h2, if_neg (by omega : ¬ need ≤ many + 1)]
theorem heardN_up1 (h1 : ¬ wish = now) (h2 : wish = wish0 → many ≤ 0) (h3 : need ≤ 1) : heardN now wish0 many wish need = (wish, wish, 0) := by
  have e2 : ¬ (wish = wish0 ∧ 0 < many) := fun ⟨a, b⟩ => by have := h2 a; omega
  simp only [heardN, if_neg h1, if_neg e2, if_pos h3]
theorem heardN_one (h1 : ¬ wish = now) (h2 : wish = wish0 → many ≤ 0) (h3 : 1 < need) : heardN now wish0 many wish need = (now, wish, 1) := by
  have e2 : ¬ (wish = wish0 ∧ 0 < many) := fun ⟨a, b⟩ => by have := h2 a; omega
  simp only [heardN, if_neg h1, if_neg e2, if_neg (by omega : ¬ need ≤ 1)]
end

theorem tally_spec (now wish0 many wish need : Int) : FnD Tryz.prog 112 [voteV (now, wish0, many), .int .i64 wish, .int .i64 need] (voteE (tallyN now wish0 many wish need)) := by
  unfold voteV
  refine fnD_of mixed Tryz.func112 rfl rfl (by simp [Tryz.ntmps112]) fun hwf E => ?_
  simp (disch := omega) [go_sem] at hwf
  simp (disch := omega) [Tryz.ntmps112, go_sem]
  refine callK_data (span_spec [now, wish0, many, wish, need]) [176] ?_ (.inr (by simp [go_sem])) (by simp [go_sem]) fun hw => ?_
  · simp [go_sem, ints]
  · simp (disch := omega) [go_sem]
    refine br_of (fun h => ?_) (fun h => ?_)
    · simp (disch := omega) [go_sem, voteE, voteV, tallyN_bad h]
    · have hm : many + 1 ≤ 9223372036854775807 ∧ -9223372036854775808 ≤ many + 1 := by
        simp [inM] at h; omega
      simp (disch := omega) [go_sem]
      refine br_of (fun h1 => ?_) (fun h1 => ?_) <;> simp at h1
      · have e := heardN_eq (wish0 := wish0) (many := many) (need := need) h1
        simp (disch := omega) [go_sem, tallyN_ok h, e, voteE, voteV]
      · simp (disch := omega) [go_sem]
        refine br_of (fun h2 => ?_) (fun h2 => ?_) <;> simp at h2
        · simp (disch := omega) [go_sem]
          refine br_of (fun h3 => ?_) (fun h3 => ?_) <;> simp at h3
          · simp (disch := omega) [go_sem, tallyN_ok h, heardN_up h1 h2 h3, voteE, voteV]
          · simp (disch := omega) [go_sem, tallyN_ok h, heardN_more h1 h2 h3, voteE, voteV]
        · simp (disch := omega) [go_sem]
          refine br_of (fun h3 => ?_) (fun h3 => ?_) <;> simp at h3
          · simp (disch := omega) [go_sem, tallyN_ok h, heardN_up1 h1 h2 h3, voteE, voteV]
          · simp (disch := omega) [go_sem, tallyN_ok h, heardN_one h1 h2 h3, voteE, voteV]


def wishI (n : NetN) (load : Int) : Nat := min (load * ((cycK n : Int) + 1) / 65536).toNat (cycK n)
def wishN (n : NetN) (load : Int) : Int := cycAt n (wishI n load)
noncomputable def wishC (n : NetN) (load : Int) : Int := if NetOk n then if 0 ≤ load ∧ load ≤ 65536 then 0 else 2 else 60
theorem wishC_bad {n : NetN} {load : Int} (h : ¬ NetOk n) : wishC n load = 60 := by unfold wishC; rw [if_neg h]
theorem wishC_arg {n : NetN} {load : Int} (h : NetOk n) (h2 : ¬ (0 ≤ load ∧ load ≤ 65536)) : wishC n load = 2 := by unfold wishC; rw [if_pos h, if_neg h2]
theorem wishC_ok {n : NetN} {load : Int} (h : NetOk n) (h2 : 0 ≤ load ∧ load ≤ 65536) : wishC n load = 0 := by unfold wishC; rw [if_pos h, if_pos h2]
noncomputable def wishE (n : NetN) (load : Int) : V := .tup [.int .i64 (if wishC n load = 0 then wishN n load else 0), .int .i64 (wishC n load)]

def towards (now to step : Int) : Int := if now < to then now + step else if to < now then now - step else now
noncomputable def nextC (n : NetN) (v : Int × Int × Int) (load : Int) : Int :=
  if NetOk n then if (inM v.1 && (inM v.2.1 && inM v.2.2)) = true ∧ v.1 ∈ cycN n (cycK n + 1) then if 0 ≤ load ∧ load ≤ 65536 then 0 else 2 else 2 else 60
noncomputable def nextV (n : NetN) (v : Int × Int × Int) (load : Int) : Int × Int × Int :=
  if nextC n v load = 0 then heardN v.1 v.2.1 v.2.2 (towards v.1 (wishN n load) n.step) 3 else (0, 0, 0)
theorem mem_cyc {n : NetN} {c : Int} : c ∈ cycN n (cycK n + 1) ↔ ∃ i, i ≤ cycK n ∧ c = cycAt n i := by
  simp only [cycN, List.mem_map, List.mem_range]
  constructor
  · rintro ⟨i, hi, rfl⟩; exact ⟨i, by omega, rfl⟩
  · rintro ⟨i, hi, rfl⟩; exact ⟨i, by omega, rfl⟩
theorem wish_mem (n : NetN) (load : Int) : wishN n load ∈ cycN n (cycK n + 1) := mem_cyc.2 ⟨wishI n load, by unfold wishI; omega, rfl⟩
theorem cycAt_lt {n : NetN} (h : TimedOk n) {i j : Nat} : cycAt n i < cycAt n j ↔ i < j := by
  have hs := h.2.2.1.1
  have key : ∀ {i j : Nat}, i < j → cycAt n i < cycAt n j := fun {i j} hij => by
    unfold cycAt
    have : n.step * ((i : Int) + 1) ≤ n.step * (j : Int) := Int.mul_le_mul_of_nonneg_left (by omega) (by omega)
    rw [Int.mul_add] at this
    omega
  constructor
  · intro h1
    apply Classical.byContradiction
    intro h2
    rcases Nat.lt_or_eq_of_le (Nat.le_of_not_lt h2) with h3 | h3
    · have := key h3; omega
    · subst h3; omega
  · exact key
theorem cycAt_succ (n : NetN) (i : Nat) : cycAt n (i + 1) = cycAt n i + n.step := by
  unfold cycAt
  rw [show ((i + 1 : Nat) : Int) = (i : Int) + 1 by omega, Int.mul_add]; omega
/-- A step towards a cycle of the region stays one of its cycles. -/
theorem towards_mem {n : NetN} (h : TimedOk n) {now to : Int} (h1 : now ∈ cycN n (cycK n + 1)) (h2 : to ∈ cycN n (cycK n + 1)) : towards now to n.step ∈ cycN n (cycK n + 1) := by
  obtain ⟨i, hi, rfl⟩ := mem_cyc.1 h1
  obtain ⟨j, hj, rfl⟩ := mem_cyc.1 h2
  unfold towards
  split
  · rename_i h3
    have := (cycAt_lt h).1 h3
    exact mem_cyc.2 ⟨i + 1, by omega, (cycAt_succ n i).symm⟩
  · split
    · rename_i h3
      have := (cycAt_lt h).1 h3
      obtain ⟨k, rfl⟩ : ∃ k, i = k + 1 := ⟨i - 1, by omega⟩
      exact mem_cyc.2 ⟨k, by omega, by rw [cycAt_succ]; omega⟩
    · exact h1
theorem cyc_bound {n : NetN} (h : TimedOk n) {c : Int} (hc : c ∈ cycN n (cycK n + 1)) : 1 ≤ c ∧ c ≤ 1048576 := by
  obtain ⟨i, hi, rfl⟩ := mem_cyc.1 hc
  have := h.at_bound (i := i) (by omega)
  have := h.at.2 hi
  have := h.2.1
  omega

theorem nextC_net {n : NetN} {v : Int × Int × Int} {load : Int} (h : ¬ NetOk n) : nextC n v load = 60 := by unfold nextC; rw [if_neg h]
theorem nextC_arg {n : NetN} {v : Int × Int × Int} {load : Int} (h : NetOk n) (h2 : ¬ ((inM v.1 && (inM v.2.1 && inM v.2.2)) = true ∧ v.1 ∈ cycN n (cycK n + 1))) : nextC n v load = 2 := by unfold nextC; rw [if_pos h, if_neg h2]
theorem nextC_load {n : NetN} {v : Int × Int × Int} {load : Int} (h : NetOk n) (h2 : (inM v.1 && (inM v.2.1 && inM v.2.2)) = true ∧ v.1 ∈ cycN n (cycK n + 1)) (h3 : ¬ (0 ≤ load ∧ load ≤ 65536)) : nextC n v load = 2 := by unfold nextC; rw [if_pos h, if_pos h2, if_neg h3]
theorem nextC_ok {n : NetN} {v : Int × Int × Int} {load : Int} (h : NetOk n) (h2 : (inM v.1 && (inM v.2.1 && inM v.2.2)) = true ∧ v.1 ∈ cycN n (cycK n + 1)) (h3 : 0 ≤ load ∧ load ≤ 65536) : nextC n v load = 0 := by unfold nextC; rw [if_pos h, if_pos h2, if_pos h3]
theorem nextV_bad {n : NetN} {v : Int × Int × Int} {load : Int} (h : nextC n v load ≠ 0) : nextV n v load = (0, 0, 0) := by unfold nextV; rw [if_neg h]
theorem nextV_ok {n : NetN} {v : Int × Int × Int} {load : Int} (h : nextC n v load = 0) : nextV n v load = heardN v.1 v.2.1 v.2.2 (towards v.1 (wishN n load) n.step) 3 := by unfold nextV; rw [if_pos h]
end Go.Proofs.YtpijmanjjhpkiaaGreatDoor

namespace Go.Proofs.YtpijmanjjhpkiaaGreatDoor
open Go.AM Go.RowKit
set_option maxRecDepth 100000

theorem list_of_all {α : Type} (f : α → V) {p : V → Prop} (hp : ∀ y, p y → ∃ x, y = f x) : ∀ {ys : List V}, (∀ y ∈ ys, p y) → ∃ l : List α, ys = l.map f
  | [], _ => ⟨[], rfl⟩
  | y :: ys, h => by
    obtain ⟨x, rfl⟩ := hp y (h y (by simp))
    obtain ⟨l, hl⟩ := list_of_all f hp (ys := ys) fun z hz => h z (by simp [hz])
    exact ⟨x :: l, by rw [hl]; rfl⟩

section
variable {m : Nat}
theorem sh_int {xs : List V} (h : sh Tryz.prog (m + 1) 3 xs) : ∃ n, xs = [.int .i64 n] := by
  simpa [sh, Tryz.underlying3, IntKind.signed] using h
theorem sh_i64 {xs : List V} (h : sh Tryz.prog (m + 1) 2 xs) : ∃ n, xs = [.int .i64 n] := by
  simpa [sh, Tryz.underlying2, IntKind.signed] using h
theorem sh_u8 {xs : List V} (h : sh Tryz.prog (m + 1) 5 xs) : ∃ n : Int, xs = [.int .u8 n] := by
  simp [sh, Tryz.underlying5, IntKind.signed] at h
  obtain ⟨n, h⟩ := h
  exact ⟨n, h⟩
theorem sh_u32 {xs : List V} (h : sh Tryz.prog (m + 1) 133 xs) : ∃ n : Nat, xs = [.int .u32 n] := by
  simpa [sh, Tryz.underlying133, IntKind.signed] using h
theorem sh_bool {xs : List V} (h : sh Tryz.prog (m + 1) 4 xs) : ∃ b, xs = [.bool b] := by
  simpa [sh, Tryz.underlying4] using h
theorem one_int {y : V} (h : one Tryz.prog (sh Tryz.prog (m + 1)) 3 y) : ∃ n, y = .int .i64 n := by
  simp only [one, isRowT, Tryz.underlying3, Option.map_some] at h
  obtain ⟨n, h⟩ := sh_int h
  exact ⟨n, by simpa using h⟩
theorem one_u32 {y : V} (h : one Tryz.prog (sh Tryz.prog (m + 1)) 133 y) : ∃ n : Nat, y = .int .u32 n := by
  simp only [one, isRowT, Tryz.underlying133, Option.map_some] at h
  obtain ⟨n, h⟩ := sh_u32 h
  exact ⟨n, by simpa using h⟩
theorem sh_ints {xs : List V} (h : sh Tryz.prog (m + 2) 40 xs) : ∃ l, xs = [.sl 1 (ints l)] := by
  rw [sh] at h
  simp only [Tryz.underlying40, fcells3] at h
  obtain ⟨ys, rfl, _, hy⟩ := h
  obtain ⟨l, rfl⟩ := list_of_all (fun n => V.int .i64 n) (fun y hy => one_int hy) hy
  exact ⟨l, rfl⟩
theorem sh_sets {xs : List V} (h : sh Tryz.prog (m + 2) 69 xs) : ∃ l, xs = [.sl 1 (sets l)] := by
  rw [sh] at h
  simp only [Tryz.underlying69, fcells133] at h
  obtain ⟨ys, rfl, _, hy⟩ := h
  obtain ⟨l, rfl⟩ := list_of_all (fun n : Nat => V.int .u32 n) (fun y hy => one_u32 hy) hy
  exact ⟨l, rfl⟩
theorem one_ints {y : V} (h : one Tryz.prog (sh Tryz.prog (m + 2)) 40 y) : ∃ l, y = .sl 1 (ints l) := by
  simp only [one, isRowT, Tryz.underlying40, Option.map_some] at h
  obtain ⟨n, h⟩ := sh_ints h
  exact ⟨n, by simpa using h⟩
theorem sh_rows {xs : List V} (h : sh Tryz.prog (m + 3) 70 xs) : ∃ l, xs = [.sl 1 (rows l)] := by
  rw [sh] at h
  simp only [Tryz.underlying70, fcells40] at h
  obtain ⟨ys, rfl, _, hy⟩ := h
  obtain ⟨l, rfl⟩ := list_of_all (fun r => V.sl 1 (ints r)) (fun y hy => one_ints hy) hy
  exact ⟨l, rfl⟩
theorem one_grp {y : V} (h : one Tryz.prog (sh Tryz.prog (m + 2)) 132 y) : ∃ g, y = grpV g := by
  simp only [one, isRowT, Tryz.underlying132, Option.map_some] at h
  obtain ⟨cs, rfl, h⟩ := h
  rw [sh] at h
  simp only [Tryz.underlying132, parts] at h
  obtain ⟨_, _, rfl, h1, _, _, rfl, h2, _, _, rfl, h3, rfl⟩ := h
  obtain ⟨a, rfl⟩ := sh_u8 h1
  obtain ⟨b, rfl⟩ := sh_int h2
  obtain ⟨c, rfl⟩ := sh_int h3
  exact ⟨⟨a, b, c⟩, rfl⟩
theorem sh_grps {xs : List V} (h : sh Tryz.prog (m + 3) 68 xs) : ∃ l : List Grp, xs = [.sl 3 (l.map grpV)] := by
  rw [sh] at h
  simp only [Tryz.underlying68, fcells132] at h
  obtain ⟨ys, rfl, _, hy⟩ := h
  obtain ⟨l, rfl⟩ := list_of_all grpV (fun y hy => one_grp hy) hy
  exact ⟨l, rfl⟩
theorem one_pha {y : V} (h : one Tryz.prog (sh Tryz.prog (m + 2)) 135 y) : ∃ g, y = phaV g := by
  simp only [one, isRowT, Tryz.underlying135, Option.map_some] at h
  obtain ⟨cs, rfl, h⟩ := h
  rw [sh] at h
  simp only [Tryz.underlying135, parts] at h
  obtain ⟨_, _, rfl, h1, _, _, rfl, h2, _, _, rfl, h3, _, _, rfl, h4, _, _, rfl, h5, rfl⟩ := h
  obtain ⟨a, rfl⟩ := sh_u32 h1
  obtain ⟨b, rfl⟩ := sh_int h2
  obtain ⟨c, rfl⟩ := sh_int h3
  obtain ⟨d, rfl⟩ := sh_int h4
  obtain ⟨e, rfl⟩ := sh_bool h5
  exact ⟨⟨a, b, c, d, e⟩, rfl⟩
theorem sh_phas {xs : List V} (h : sh Tryz.prog (m + 3) 71 xs) : ∃ l : List Pha, xs = [.sl 5 (l.map phaV)] := by
  rw [sh] at h
  simp only [Tryz.underlying71, fcells135] at h
  obtain ⟨ys, rfl, _, hy⟩ := h
  obtain ⟨l, rfl⟩ := list_of_all phaV (fun y hy => one_pha hy) hy
  exact ⟨l, rfl⟩
theorem one_eye {y : V} (h : one Tryz.prog (sh Tryz.prog (m + 2)) 180 y) : ∃ g, y = eyeV g := by
  simp only [one, isRowT, Tryz.underlying180, Option.map_some] at h
  obtain ⟨cs, rfl, h⟩ := h
  rw [sh] at h
  simp only [Tryz.underlying180, parts] at h
  obtain ⟨_, _, rfl, h1, _, _, rfl, h2, _, _, rfl, h3, _, _, rfl, h4, rfl⟩ := h
  obtain ⟨a, rfl⟩ := sh_int h1
  obtain ⟨b, rfl⟩ := sh_int h2
  obtain ⟨c, rfl⟩ := sh_int h3
  obtain ⟨d, rfl⟩ := sh_int h4
  exact ⟨⟨a, b, c, d⟩, rfl⟩
theorem sh_eyes {xs : List V} (h : sh Tryz.prog (m + 3) 72 xs) : ∃ l : List Eye, xs = [.sl 4 (l.map eyeV)] := by
  rw [sh] at h
  simp only [Tryz.underlying72, fcells180] at h
  obtain ⟨ys, rfl, _, hy⟩ := h
  obtain ⟨l, rfl⟩ := list_of_all eyeV (fun y hy => one_eye hy) hy
  exact ⟨l, rfl⟩
theorem one_pln {y : V} (h : one Tryz.prog (sh Tryz.prog (m + 3)) 77 y) : ∃ g, y = plnV g := by
  simp only [one, isRowT, Tryz.underlying77, Option.map_some] at h
  obtain ⟨cs, rfl, h⟩ := h
  rw [sh] at h
  simp only [Tryz.underlying77, parts] at h
  obtain ⟨_, _, rfl, h1, _, _, rfl, h2, _, _, rfl, h3, rfl⟩ := h
  obtain ⟨a, rfl⟩ := sh_int h1
  obtain ⟨b, rfl⟩ := sh_int h2
  obtain ⟨c, rfl⟩ := sh_ints h3
  exact ⟨⟨a, b, c⟩, rfl⟩
theorem sh_plns {xs : List V} (h : sh Tryz.prog (m + 4) 73 xs) : ∃ l : List Pln, xs = [.sl 3 (l.map plnV)] := by
  rw [sh] at h
  simp only [Tryz.underlying73, fcells77] at h
  obtain ⟨ys, rfl, _, hy⟩ := h
  obtain ⟨l, rfl⟩ := list_of_all plnV (fun y hy => one_pln hy) hy
  exact ⟨l, rfl⟩
theorem one_sit {y : V} (h : one Tryz.prog (sh Tryz.prog (m + 5)) 75 y) : ∃ s, y = sitV s := by
  simp only [one, isRowT, Tryz.underlying75, Option.map_some] at h
  obtain ⟨cs, rfl, h⟩ := h
  rw [sh] at h
  simp only [Tryz.underlying75, parts] at h
  obtain ⟨_, _, rfl, h1, _, _, rfl, h2, _, _, rfl, h3, _, _, rfl, h4, _, _, rfl, h5, _, _, rfl, h6, _, _, rfl, h7, _, _, rfl, h8, _, _, rfl, h9, _, _, rfl, h10, _, _, rfl, h11, _, _, rfl, h12, rfl⟩ := h
  obtain ⟨a1, rfl⟩ := sh_int h1
  obtain ⟨a2, rfl⟩ := sh_grps h2
  obtain ⟨a3, rfl⟩ := sh_sets h3
  obtain ⟨a4, rfl⟩ := sh_rows h4
  obtain ⟨a5, rfl⟩ := sh_phas h5
  obtain ⟨a6, rfl⟩ := sh_eyes h6
  obtain ⟨a7, rfl⟩ := sh_int h7
  obtain ⟨a8, rfl⟩ := sh_int h8
  obtain ⟨a9, rfl⟩ := sh_int h9
  obtain ⟨a10, rfl⟩ := sh_int h10
  obtain ⟨a11, rfl⟩ := sh_int h11
  obtain ⟨a12, rfl⟩ := sh_plns h12
  exact ⟨⟨a1, a2, a3, a4, a5, a6, a7, a8, a9, a10, a11, a12⟩, rfl⟩
theorem sh_sits {xs : List V} (h : sh Tryz.prog (m + 6) 22 xs) : ∃ l : List Sit, xs = [.sl 12 (l.map sitV)] := by
  rw [sh] at h
  simp only [Tryz.underlying22, fcells75] at h
  obtain ⟨ys, rfl, _, hy⟩ := h
  obtain ⟨l, rfl⟩ := list_of_all sitV (fun y hy => one_sit hy) hy
  exact ⟨l, rfl⟩
theorem one_sub {y : V} (h : one Tryz.prog (sh Tryz.prog (m + 3)) 84 y) : ∃ g, y = subV g := by
  simp only [one, isRowT, Tryz.underlying84, Option.map_some] at h
  obtain ⟨cs, rfl, h⟩ := h
  rw [sh] at h
  simp only [Tryz.underlying84, parts] at h
  obtain ⟨_, _, rfl, h1, _, _, rfl, h2, rfl⟩ := h
  obtain ⟨a, rfl⟩ := sh_ints h1
  obtain ⟨b, rfl⟩ := sh_int h2
  exact ⟨⟨a, b⟩, rfl⟩
theorem sh_subs {xs : List V} (h : sh Tryz.prog (m + 4) 23 xs) : ∃ l : List SubN, xs = [.sl 2 (l.map subV)] := by
  rw [sh] at h
  simp only [Tryz.underlying23, fcells84] at h
  obtain ⟨ys, rfl, _, hy⟩ := h
  obtain ⟨l, rfl⟩ := list_of_all subV (fun y hy => one_sub hy) hy
  exact ⟨l, rfl⟩
theorem one_wed {y : V} (h : one Tryz.prog (sh Tryz.prog (m + 3)) 86 y) : ∃ g, y = wedV g := by
  simp only [one, isRowT, Tryz.underlying86, Option.map_some] at h
  obtain ⟨cs, rfl, h⟩ := h
  rw [sh] at h
  simp only [Tryz.underlying86, parts] at h
  obtain ⟨_, _, rfl, h1, _, _, rfl, h2, _, _, rfl, h3, _, _, rfl, h4, rfl⟩ := h
  obtain ⟨a, rfl⟩ := sh_int h1
  obtain ⟨b, rfl⟩ := sh_int h2
  obtain ⟨c, rfl⟩ := sh_int h3
  obtain ⟨d, rfl⟩ := sh_ints h4
  exact ⟨⟨a, b, c, d⟩, rfl⟩
theorem sh_weds {xs : List V} (h : sh Tryz.prog (m + 4) 24 xs) : ∃ l : List WedN, xs = [.sl 4 (l.map wedV)] := by
  rw [sh] at h
  simp only [Tryz.underlying24, fcells86] at h
  obtain ⟨ys, rfl, _, hy⟩ := h
  obtain ⟨l, rfl⟩ := list_of_all wedV (fun y hy => one_wed hy) hy
  exact ⟨l, rfl⟩
theorem one_net {y : V} (h : one Tryz.prog (sh Tryz.prog (m + 7)) 26 y) : ∃ n, y = netV n := by
  simp only [one, isRowT, Tryz.underlying26, Option.map_some] at h
  obtain ⟨cs, rfl, h⟩ := h
  rw [sh] at h
  simp only [Tryz.underlying26, parts] at h
  obtain ⟨_, _, rfl, h1, _, _, rfl, h2, _, _, rfl, h3, _, _, rfl, h4, _, _, rfl, h5, _, _, rfl, h6, rfl⟩ := h
  obtain ⟨a1, rfl⟩ := sh_sits h1
  obtain ⟨a2, rfl⟩ := sh_subs h2
  obtain ⟨a3, rfl⟩ := sh_weds h3
  obtain ⟨a4, rfl⟩ := sh_int h4
  obtain ⟨a5, rfl⟩ := sh_int h5
  obtain ⟨a6, rfl⟩ := sh_int h6
  exact ⟨⟨a1, a2, a3, a4, a5, a6⟩, rfl⟩
theorem one_vote {y : V} (h : one Tryz.prog (sh Tryz.prog (m + 2)) 50 y) : ∃ v, y = voteV v := by
  simp only [one, isRowT, Tryz.underlying50, Option.map_some] at h
  obtain ⟨cs, rfl, h⟩ := h
  rw [sh] at h
  simp only [Tryz.underlying50, parts] at h
  obtain ⟨_, _, rfl, h1, _, _, rfl, h2, _, _, rfl, h3, rfl⟩ := h
  obtain ⟨a, rfl⟩ := sh_int h1
  obtain ⟨b, rfl⟩ := sh_int h2
  obtain ⟨c, rfl⟩ := sh_int h3
  exact ⟨(a, b, c), rfl⟩
theorem one_i64 {y : V} (h : one Tryz.prog (sh Tryz.prog (m + 1)) 2 y) : ∃ n, y = .int .i64 n := by
  simp only [one, isRowT, Tryz.underlying2, Option.map_some] at h
  obtain ⟨n, h⟩ := sh_i64 h
  exact ⟨n, by simpa using h⟩
theorem one_loads {y : V} (h : one Tryz.prog (sh Tryz.prog (m + 2)) 46 y) : ∃ l, y = .sl 1 (ints l) := by
  simp only [one, isRowT, Tryz.underlying46, Option.map_some] at h
  rw [sh] at h
  simp only [Tryz.underlying46, fcells2] at h
  obtain ⟨ys, hs, _, hy⟩ := h
  obtain ⟨l, rfl⟩ := list_of_all (fun n => V.int .i64 n) (fun y hy => one_i64 hy) hy
  exact ⟨l, by simpa [ints] using hs⟩
theorem one_bond {y : V} (h : one Tryz.prog (sh Tryz.prog (m + 2)) 103 y) : ∃ (b : Bool) (k : Int), y = .agg [.bool b, .int .i64 k] := by
  simp only [one, isRowT, Tryz.underlying103, Option.map_some] at h
  obtain ⟨cs, rfl, h⟩ := h
  rw [sh] at h
  simp only [Tryz.underlying103, parts] at h
  obtain ⟨_, _, rfl, h1, _, _, rfl, h2, rfl⟩ := h
  obtain ⟨a, rfl⟩ := sh_bool h1
  obtain ⟨b, rfl⟩ := sh_int h2
  exact ⟨a, b, rfl⟩
end
end Go.Proofs.YtpijmanjjhpkiaaGreatDoor

namespace Go.Proofs.YtpijmanjjhpkiaaGreatDoor
open Go.AM Go.RowKit
set_option maxRecDepth 100000

/-! bytes -/
def bts (l : List UInt8) : List V := l.map fun b => .int .u8 (b.toNat : Int)
theorem bts_len (l : List UInt8) : (bts l).length = l.length := by simp [bts]
theorem bts_pure (l : List UInt8) : pures (bts l) := pures_map _ (fun u => by simp [go_sem]) l
/-! bits -/
/-! Small -/
/-! Read -/
/-! Put, of four bytes -/
/-! Sum -/
end Go.Proofs.YtpijmanjjhpkiaaGreatDoor

namespace Go.Proofs.YtpijmanjjhpkiaaGreatDoor
open Go.AM Go.RowKit
set_option maxRecDepth 100000

section
variable {m : Nat}
theorem one_u8 {y : V} (h : one Tryz.prog (sh Tryz.prog (m + 1)) 5 y) : ∃ n, y = .int .u8 n := by
  simp only [one, isRowT, Tryz.underlying5, Option.map_some] at h
  obtain ⟨n, h⟩ := sh_u8 h
  exact ⟨n, by simpa using h⟩
end
end Go.Proofs.YtpijmanjjhpkiaaGreatDoor

namespace Go.Proofs.YtpijmanjjhpkiaaGreatDoor
open Go.AM Go.RowKit
set_option maxRecDepth 100000

def siteN (id : Int) : Sit := ⟨id, [⟨1, 2, 1⟩, ⟨1, 2, 1⟩], [2, 1], [[0, 2], [2, 0]], [⟨1, 2, 5, 1, false⟩, ⟨2, 2, 5, 1, false⟩], [], 3, 2, 4, 8, 20, []⟩
def regionN : NetN := ⟨[siteN 0, siteN 1], [⟨[0], 0⟩, ⟨[1], 1⟩], [⟨0, 1, 3, [0, 4]⟩], 8, 20, 4⟩


theorem siteN_ok0 : SiteOk (siteN 0) := by
  have hS : Shaped (siteN 0) := by
    refine ⟨by simp [siteN], rfl, rfl, by simp [siteN], by simp [siteN], by simp [siteN], fun i hi => ?_⟩
    have hi' : i < 2 := hi
    have hc : i = 0 ∨ i = 1 := by omega
    rcases hc with rfl | rfl <;> exact ⟨rfl, by decide⟩
  have hA : ApartOk (siteN 0) := by
    intro a ha
    have ha' : a < 2 := ha
    have hc : a = 0 ∨ a = 1 := by omega
    refine ⟨fun h => ?_, fun b hb => ?_⟩
    · rcases hc with rfl | rfl <;> exact ⟨.inl rfl, by simp [siteN], by simp [siteN]⟩
    · have hb' : b < 2 := hb
      have hd : b = 0 ∨ b = 1 := by omega
      rcases hc with rfl | rfl <;> rcases hd with rfl | rfl <;> (unfold cellOk; decide)
  have hP : PhasedOk (siteN 0) := by
    refine ⟨fun k hk h => ?_, by decide⟩
    have hk' : k < 2 := hk
    have hc : k = 0 ∨ k = 1 := by omega
    have key : ∀ (set : Nat), set = 1 ∨ set = 2 → ∀ a, set.testBit a = true → a = 0 ∧ set = 1 ∨ a = 1 ∧ set = 2 := by
      intro set hset a h
      by_cases h32 : a < 32
      · have : ∀ a, a < 32 → ((1 : Nat).testBit a = true → a = 0) ∧ ((2 : Nat).testBit a = true → a = 1) := by decide
        rcases hset with rfl | rfl
        · exact .inl ⟨(this a h32).1 h, rfl⟩
        · exact .inr ⟨(this a h32).2 h, rfl⟩
      · rw [high_bit (by omega) h32] at h; cases h
    rcases hc with rfl | rfl
    · refine ⟨by simp [siteN], by simp [siteN], ⟨by simp [siteN], by simp [siteN], by simp [siteN]⟩, by simp [siteN], fun a ha => ?_⟩
      rcases key 1 (.inl rfl) a ha with ⟨rfl, _⟩ | ⟨rfl, h⟩
      · exact ⟨by simp [siteN, minGrp], by simp [siteN]⟩
      · cases h
    · refine ⟨by simp [siteN], by simp [siteN], ⟨by simp [siteN], by simp [siteN], by simp [siteN]⟩, by simp [siteN], fun a ha => ?_⟩
      rcases key 2 (.inr rfl) a ha with ⟨rfl, h⟩ | ⟨rfl, h⟩
      · cases h
      · exact ⟨by simp [siteN, minGrp], by simp [siteN]⟩
  intro i hi
  have hc : i = 0 ∨ i = 1 ∨ i = 2 ∨ i = 3 ∨ i = 4 ∨ i = 5 := by omega
  rcases hc with rfl | rfl | rfl | rfl | rfl | rfl
  · exact ⟨by decide, hS⟩
  · exact hA
  · exact hP
  · rfl
  · show timedN (siteN 0) = true
    have : roundK (siteN 0) 2 = 8 := by rfl
    simp [timedN, inN, siteN, roundK] at this ⊢
    omega
  · rfl
theorem siteN_ok1 : SiteOk (siteN 1) := by
  have hS : Shaped (siteN 1) := by
    refine ⟨by simp [siteN], rfl, rfl, by simp [siteN], by simp [siteN], by simp [siteN], fun i hi => ?_⟩
    have hi' : i < 2 := hi
    have hc : i = 0 ∨ i = 1 := by omega
    rcases hc with rfl | rfl <;> exact ⟨rfl, by decide⟩
  have hA : ApartOk (siteN 1) := by
    intro a ha
    have ha' : a < 2 := ha
    have hc : a = 0 ∨ a = 1 := by omega
    refine ⟨fun h => ?_, fun b hb => ?_⟩
    · rcases hc with rfl | rfl <;> exact ⟨.inl rfl, by simp [siteN], by simp [siteN]⟩
    · have hb' : b < 2 := hb
      have hd : b = 0 ∨ b = 1 := by omega
      rcases hc with rfl | rfl <;> rcases hd with rfl | rfl <;> (unfold cellOk; decide)
  have hP : PhasedOk (siteN 1) := by
    refine ⟨fun k hk h => ?_, by decide⟩
    have hk' : k < 2 := hk
    have hc : k = 0 ∨ k = 1 := by omega
    have key : ∀ (set : Nat), set = 1 ∨ set = 2 → ∀ a, set.testBit a = true → a = 0 ∧ set = 1 ∨ a = 1 ∧ set = 2 := by
      intro set hset a h
      by_cases h32 : a < 32
      · have : ∀ a, a < 32 → ((1 : Nat).testBit a = true → a = 0) ∧ ((2 : Nat).testBit a = true → a = 1) := by decide
        rcases hset with rfl | rfl
        · exact .inl ⟨(this a h32).1 h, rfl⟩
        · exact .inr ⟨(this a h32).2 h, rfl⟩
      · rw [high_bit (by omega) h32] at h; cases h
    rcases hc with rfl | rfl
    · refine ⟨by simp [siteN], by simp [siteN], ⟨by simp [siteN], by simp [siteN], by simp [siteN]⟩, by simp [siteN], fun a ha => ?_⟩
      rcases key 1 (.inl rfl) a ha with ⟨rfl, _⟩ | ⟨rfl, h⟩
      · exact ⟨by simp [siteN, minGrp], by simp [siteN]⟩
      · cases h
    · refine ⟨by simp [siteN], by simp [siteN], ⟨by simp [siteN], by simp [siteN], by simp [siteN]⟩, by simp [siteN], fun a ha => ?_⟩
      rcases key 2 (.inr rfl) a ha with ⟨rfl, h⟩ | ⟨rfl, h⟩
      · cases h
      · exact ⟨by simp [siteN, minGrp], by simp [siteN]⟩
  intro i hi
  have hc : i = 0 ∨ i = 1 ∨ i = 2 ∨ i = 3 ∨ i = 4 ∨ i = 5 := by omega
  rcases hc with rfl | rfl | rfl | rfl | rfl | rfl
  · exact ⟨by decide, hS⟩
  · exact hA
  · exact hP
  · rfl
  · show timedN (siteN 1) = true
    have : roundK (siteN 1) 2 = 8 := by rfl
    simp [timedN, inN, siteN, roundK] at this ⊢
    omega
  · rfl
theorem regionN_ok : NetOk regionN := by
  refine ⟨by decide, ⟨by decide, by decide, fun s hs => ?_⟩, ⟨by decide, ⟨by decide, ?_⟩, by decide, by decide⟩, ⟨by decide, by decide, fun w hw => ?_⟩⟩
  · simp only [regionN, List.mem_cons, List.not_mem_nil, or_false] at hs
    rcases hs with rfl | rfl
    · exact ⟨siteN_ok0, by decide, by decide⟩
    · exact ⟨siteN_ok1, by decide, by decide⟩
  · unfold rangeOk; decide
  · simp only [regionN, List.mem_cons, List.not_mem_nil, or_false] at hw
    subst hw
    exact ⟨by decide, by decide, by decide, by decide, by decide, by decide⟩
end Go.Proofs.YtpijmanjjhpkiaaGreatDoor

namespace Go.Proofs.YtpijmanjjhpkiaaGreatDoor
open Go.AM Go.RowKit
set_option maxRecDepth 100000

def greatS (s : Sit) : Bool := (decide ((40 : Int) < s.groups.length) || decide ((40 : Int) < s.apart.length) || decide ((40 : Int) < s.between.length) || decide ((40 : Int) < s.phases.length) || decide ((60 : Int) < s.eyes.length) || decide ((40 : Int) < s.plans.length))
  || (s.between.any (fun l => decide ((40 : Int) < l.length)) || s.plans.any (fun p => decide ((40 : Int) < p.splits.length)))
theorem any_no {α : Type} {p : α → Bool} {l : List α} (h : ∀ j (hj : j < l.length), p l[j] = false) : l.any p = false := by
  rw [List.any_eq_false]
  intro x hx
  obtain ⟨j, hj, rfl⟩ := List.getElem_of_mem hx
  simp [h j hj]

set_option maxHeartbeats 1000000 in
theorem greatS_spec (s : Sit) : FnD Tryz.prog 26 [sitV s] (.bool (greatS s)) := by
  have hpu := (⟨grps_pure s.groups, phas_pure s.phases, eyes_pure s.eyes, plns_pure s.plans, sets_pure s.apart, rows_pure s.between⟩ : _ ∧ _ ∧ _ ∧ _ ∧ _ ∧ _)
  obtain ⟨hp1, hp2, hp3, hp4, hp5, hp6⟩ := hpu
  unfold sitV
  refine fnD_of mixed Tryz.func26 rfl rfl (by simp [Tryz.ntmps26]) fun hwf E => ?_
  simp (disch := omega) [go_sem, sets_len, rows_len] at hwf
  simp (disch := omega) [Tryz.ntmps26, go_sem, sets_len, rows_len]
  unfold greatS
  refine br_of (fun h => ?_) (fun h => ?_)
  · simp (disch := omega) [go_sem]
    left
    simpa using h
  · have h0 : (decide ((40 : Int) < s.groups.length) || decide ((40 : Int) < s.apart.length) || decide ((40 : Int) < s.between.length) || decide ((40 : Int) < s.phases.length) || decide ((60 : Int) < s.eyes.length) || decide ((40 : Int) < s.plans.length)) = false := by
      simpa using h
    rw [h0, Bool.false_or]
    simp (disch := omega) [go_sem]
    refine awz_loop mixed (fun k : Nat => ⟨[(3, .int .i64 k), (1, .ptr 0 1 0 0), (2, .bool false)], [(0, ⟨.box, 75, 12, [sitV s]⟩)], 1024, [], 68, 0, []⟩)
      (fun k => k ≤ s.between.length ∧ ∀ j (h : j < s.between.length), j < k → decide ((40 : Int) < s.between[j].length) = false) (fun k => s.between.length - k) 0 (by simp) ?_ ?_
    · refine Le.mk [(0, some 0)] [0] ⟨rfl, rfl, rfl⟩ ?_ ?_ ?_ <;> simp [go_sem, sitV, hp1, hp2, hp3, hp4, hp5, hp6]
    · rintro k ⟨hk, hno⟩
      simp (disch := omega) [go_sem, sitV, rows_len]
      refine br_of (fun h1 => ?_) (fun h1 => ?_) <;> simp at h1
      · simp (disch := omega) [go_sem, h1, nth_rows, rows_len, ints_len]
        refine br_of (fun h2 => ?_) (fun h2 => ?_) <;> simp at h2
        · simp (disch := omega) [go_sem]
          left; exact ⟨_, List.getElem_mem h1, h2⟩
        · simp (disch := omega) [go_sem]
          refine round_of (k + 1) ⟨by omega, fun j h3 hj => ?_⟩ (by omega) (Le.mk [(0, some 0)] [0] ⟨rfl, rfl, rfl⟩ ?_ ?_ ?_)
          · by_cases e : j = k
            · subst e; simpa using h2
            · simpa using hno j h3 (by omega)
          all_goals simp [go_sem, sitV, hp1, hp2, hp3, hp4, hp5, hp6]
      · have e1 : s.between.any (fun l => decide ((40 : Int) < l.length)) = false := any_no fun j hj => hno j hj (by omega)
        rw [e1, Bool.false_or]
        simp (disch := omega) [go_sem]
        refine awz_loop mixed (fun k : Nat => ⟨[(4, .int .i64 k), (1, .ptr 0 1 0 0), (2, .bool false)], [(0, ⟨.box, 75, 12, [sitV s]⟩)], 2048, [], 68, 0, []⟩)
          (fun k => k ≤ s.plans.length ∧ ∀ j (h : j < s.plans.length), j < k → decide ((40 : Int) < s.plans[j].splits.length) = false) (fun k => s.plans.length - k) 0 (by simp) ?_ ?_
        · refine Le.mk [(0, some 0)] [0] ⟨rfl, rfl, rfl⟩ ?_ ?_ ?_ <;> simp [go_sem, sitV, hp1, hp2, hp3, hp4, hp5, hp6]
        · rintro m ⟨hm, hno2⟩
          simp (disch := omega) [go_sem, sitV]
          refine br_of (fun h3 => ?_) (fun h3 => ?_) <;> simp at h3
          · have he : nth (s.plans.map plnV) m = plnV s.plans[m] := nth_map h3
            simp (disch := omega) [go_sem, h3, he, plnV, ints_len]
            refine br_of (fun h2 => ?_) (fun h2 => ?_) <;> simp at h2
            · simp (disch := omega) [go_sem]
              exact ⟨_, List.getElem_mem h3, h2⟩
            · simp (disch := omega) [go_sem]
              refine round_of (m + 1) ⟨by omega, fun j h4 hj => ?_⟩ (by omega) (Le.mk [(0, some 0)] [0] ⟨rfl, rfl, rfl⟩ ?_ ?_ ?_)
              · by_cases e : j = m
                · subst e; simpa using h2
                · simpa using hno2 j h4 (by omega)
              all_goals simp [go_sem, sitV, hp1, hp2, hp3, hp4, hp5, hp6]
          · have e2 : s.plans.any (fun p => decide ((40 : Int) < p.splits.length)) = false := any_no fun j hj => hno2 j hj (by omega)
            rw [e2]
            simp (disch := omega) [go_sem]

def greatN (n : NetN) : Bool := (decide ((20 : Int) < n.sites.length) || decide ((30 : Int) < n.subs.length) || decide ((30 : Int) < n.weds.length))
  || (n.sites.any greatS || (n.subs.any (fun u => decide ((60 : Int) < u.sites.length)) || n.weds.any (fun w => decide ((60 : Int) < w.offsets.length))))
set_option maxHeartbeats 1000000 in
theorem greatN_spec (n : NetN) : FnD Tryz.prog 9 [netV n] (.bool (greatN n)) := by
  have hp1 := sits_pure n.sites
  have hp2 := subs_pure n.subs
  have hp3 := weds_pure n.weds
  unfold netV
  refine fnD_of mixed Tryz.func9 rfl rfl (by simp [Tryz.ntmps9]) fun hwf E => ?_
  simp (disch := omega) [go_sem] at hwf
  simp (disch := omega) [Tryz.ntmps9, go_sem]
  unfold greatN
  refine br_of (fun h => ?_) (fun h => ?_)
  · simp (disch := omega) [go_sem]
    left
    simpa using h
  · have h0 : (decide ((20 : Int) < n.sites.length) || decide ((30 : Int) < n.subs.length) || decide ((30 : Int) < n.weds.length)) = false := by
      simpa using h
    rw [h0, Bool.false_or]
    simp (disch := omega) [go_sem]
    refine awz_loop mixed (fun k : Nat => ⟨[(3, .int .i64 k), (1, .ptr 0 1 0 0), (2, .bool false)], [(0, ⟨.box, 26, 6, [netV n]⟩)], 1024, [], 65, 0, []⟩)
      (fun k => k ≤ n.sites.length ∧ ∀ j (h : j < n.sites.length), j < k → greatS n.sites[j] = false) (fun k => n.sites.length - k) 0 (by simp) ?_ ?_
    · refine Le.mk [(0, some 0)] [0] ⟨rfl, rfl, rfl⟩ ?_ ?_ ?_ <;> simp [go_sem, netV, hp1, hp2, hp3]
    · rintro k ⟨hk, hno⟩
      simp (disch := omega) [go_sem, netV]
      refine br_of (fun h1 => ?_) (fun h1 => ?_) <;> simp at h1
      · have he : nth (n.sites.map sitV) k = sitV n.sites[k] := nth_map h1
        simp (disch := omega) [go_sem, h1, he, sitV]
        refine callK_bool (greatS_spec n.sites[k]) [] (by simp [go_sem, sitV, grps_pure, phas_pure, eyes_pure, plns_pure, sets_pure, rows_pure]) (fun h2 => ?_) (fun h2 => ?_)
        · simp (disch := omega) [go_sem]
          left; exact ⟨_, List.getElem_mem h1, h2⟩
        · simp (disch := omega) [go_sem]
          refine round_of (k + 1) ⟨by omega, fun j h3 hj => ?_⟩ (by omega) (Le.mk [(0, some 0)] [0] ⟨rfl, rfl, rfl⟩ ?_ ?_ ?_)
          · by_cases e : j = k
            · subst e; exact h2
            · simpa using hno j h3 (by omega)
          all_goals simp [go_sem, netV, hp1, hp2, hp3]
      · have e1 : n.sites.any greatS = false := any_no fun j hj => hno j hj (by omega)
        rw [e1, Bool.false_or]
        simp (disch := omega) [go_sem]
        refine awz_loop mixed (fun k : Nat => ⟨[(4, .int .i64 k), (1, .ptr 0 1 0 0), (2, .bool false)], [(0, ⟨.box, 26, 6, [netV n]⟩)], 2048, [], 65, 0, []⟩)
          (fun k => k ≤ n.subs.length ∧ ∀ j (h : j < n.subs.length), j < k → decide ((60 : Int) < n.subs[j].sites.length) = false) (fun k => n.subs.length - k) 0 (by simp) ?_ ?_
        · refine Le.mk [(0, some 0)] [0] ⟨rfl, rfl, rfl⟩ ?_ ?_ ?_ <;> simp [go_sem, netV, hp1, hp2, hp3]
        · rintro m ⟨hm, hno2⟩
          simp (disch := omega) [go_sem, netV]
          refine br_of (fun h3 => ?_) (fun h3 => ?_) <;> simp at h3
          · have he : nth (n.subs.map subV) m = subV n.subs[m] := nth_map h3
            simp (disch := omega) [go_sem, h3, he, subV, ints_len]
            refine br_of (fun h2 => ?_) (fun h2 => ?_) <;> simp at h2
            · simp (disch := omega) [go_sem]
              left; exact ⟨_, List.getElem_mem h3, h2⟩
            · simp (disch := omega) [go_sem]
              refine round_of (m + 1) ⟨by omega, fun j h4 hj => ?_⟩ (by omega) (Le.mk [(0, some 0)] [0] ⟨rfl, rfl, rfl⟩ ?_ ?_ ?_)
              · by_cases e : j = m
                · subst e; simpa using h2
                · simpa using hno2 j h4 (by omega)
              all_goals simp [go_sem, netV, hp1, hp2, hp3]
          · have e2 : n.subs.any (fun u => decide ((60 : Int) < u.sites.length)) = false := any_no fun j hj => hno2 j hj (by omega)
            rw [e2, Bool.false_or]
            simp (disch := omega) [go_sem]
            refine awz_loop mixed (fun k : Nat => ⟨[(5, .int .i64 k), (1, .ptr 0 1 0 0), (2, .bool false)], [(0, ⟨.box, 26, 6, [netV n]⟩)], 4096, [], 65, 0, []⟩)
              (fun k => k ≤ n.weds.length ∧ ∀ j (h : j < n.weds.length), j < k → decide ((60 : Int) < n.weds[j].offsets.length) = false) (fun k => n.weds.length - k) 0 (by simp) ?_ ?_
            · refine Le.mk [(0, some 0)] [0] ⟨rfl, rfl, rfl⟩ ?_ ?_ ?_ <;> simp [go_sem, netV, hp1, hp2, hp3]
            · rintro r ⟨hr, hno3⟩
              simp (disch := omega) [go_sem, netV]
              refine br_of (fun h5 => ?_) (fun h5 => ?_) <;> simp at h5
              · have he : nth (n.weds.map wedV) r = wedV n.weds[r] := nth_map h5
                simp (disch := omega) [go_sem, h5, he, wedV, ints_len]
                refine br_of (fun h2 => ?_) (fun h2 => ?_) <;> simp at h2
                · simp (disch := omega) [go_sem]
                  exact ⟨_, List.getElem_mem h5, h2⟩
                · simp (disch := omega) [go_sem]
                  refine round_of (r + 1) ⟨by omega, fun j h4 hj => ?_⟩ (by omega) (Le.mk [(0, some 0)] [0] ⟨rfl, rfl, rfl⟩ ?_ ?_ ?_)
                  · by_cases e : j = r
                    · subst e; simpa using h2
                    · simpa using hno3 j h4 (by omega)
                  all_goals simp [go_sem, netV, hp1, hp2, hp3]
              · have e3 : n.weds.any (fun w => decide ((60 : Int) < w.offsets.length)) = false := any_no fun j hj => hno3 j hj (by omega)
                rw [e3]
                simp (disch := omega) [go_sem]
end Go.Proofs.YtpijmanjjhpkiaaGreatDoor

namespace Go.Proofs.YtpijmanjjhpkiaaGreatDoor
open Go.AM Go.RowKit
set_option maxRecDepth 100000

def bondV (b : Bool × Int) : V := .agg [.bool b.1, .int .i64 b.2]
theorem may_spec (b : Bool × Int) : FnD Tryz.prog 95 [bondV b] (.bool (inM b.2)) := by
  obtain ⟨t, m⟩ := b
  unfold bondV
  refine fnD_of mixed Tryz.func95 rfl rfl (by simp [Tryz.ntmps95]) fun hwf E => ?_
  simp (disch := omega) [Tryz.ntmps95, go_sem]
  rfl
def votesAt (n : NetN) (w : Int) : Int := ((n.weds[w.toNat]?).map WedN.votes).getD 0
def bondOk (n : NetN) (w : Int) (b : Bool × Int) (x y : Int) : Prop := (0 ≤ w ∧ w < n.weds.length) ∧ inM b.2 = true ∧ x ∈ cycN n (cycK n + 1) ∧ y ∈ cycN n (cycK n + 1)
noncomputable instance (n : NetN) (w : Int) (b : Bool × Int) (x y : Int) : Decidable (bondOk n w b x y) := Classical.propDecidable _
def bwish (n : NetN) (x y : Int) : Bool := decide (x - y ≤ n.step) && decide (y - x ≤ n.step)
/-- A bond a vote later. -/
def laterB (wish : Bool) (votes : Int) (b : Bool × Int) : Bool × Int := if wish = b.1 then (wish, 0) else if votes ≤ b.2 + 1 then (wish, 0) else (b.1, b.2 + 1)
noncomputable def bondC (n : NetN) (w : Int) (b : Bool × Int) (x y : Int) : Int := if NetOk n then if bondOk n w b x y then 0 else 2 else 60
noncomputable def bondN (n : NetN) (w : Int) (b : Bool × Int) (x y : Int) : Bool × Int := if bondC n w b x y = 0 then laterB (bwish n x y) (votesAt n w) b else (false, 0)
section
variable {n : NetN} {w : Int} {b : Bool × Int} {x y : Int}
theorem bondC_net (h : ¬ NetOk n) : bondC n w b x y = 60 := by unfold bondC; rw [if_neg h]
theorem bondC_arg (h : NetOk n) (h2 : ¬ bondOk n w b x y) : bondC n w b x y = 2 := by unfold bondC; rw [if_pos h, if_neg h2]
theorem bondC_ok (h : NetOk n) (h2 : bondOk n w b x y) : bondC n w b x y = 0 := by unfold bondC; rw [if_pos h, if_pos h2]
theorem bondN_bad (h : bondC n w b x y ≠ 0) : bondN n w b x y = (false, 0) := by unfold bondN; rw [if_neg h]
theorem bondN_ok (h : bondC n w b x y = 0) : bondN n w b x y = laterB (bwish n x y) (votesAt n w) b := by unfold bondN; rw [if_pos h]
end
set_option maxHeartbeats 2000000 in
theorem bond_spec (n : NetN) (w : Int) (b : Bool × Int) (x y : Int) : FnD Tryz.prog 63 [netV n, .int .i64 w, bondV b, .int .i64 x, .int .i64 y] (.tup [bondV (bondN n w b x y), .int .i64 (bondC n w b x y)]) tabG := by
  have hp1 := sits_pure n.sites
  have hp2 := subs_pure n.subs
  have hp3 := weds_pure n.weds
  have hc := cycles_spec n
  have hmay := may_spec b
  have hnv : netV n = .agg [.sl 12 (n.sites.map sitV), .sl 2 (n.subs.map subV), .sl 4 (n.weds.map wedV), .int .i64 n.low, .int .i64 n.high, .int .i64 n.step] := rfl
  rw [hnv] at hc ⊢
  obtain ⟨t, m⟩ := b
  have hbv : bondV (t, m) = .agg [.bool t, .int .i64 m] := rfl
  rw [hbv] at hmay ⊢
  have bad : NetOk n → ¬ bondOk n w (t, m) x y → bondC n w (t, m) x y = 2 ∧ bondV (bondN n w (t, m) x y) = .agg [.bool false, .int .i64 0] := fun h1 h2 => by
    have e := bondC_arg h1 h2
    exact ⟨e, by rw [bondN_bad (by rw [e]; decide)]; rfl⟩
  refine fnD_of mixed Tryz.func63 rfl rfl (by simp [Tryz.ntmps63]) fun hwf E => ?_
  simp (disch := omega) [go_sem] at hwf
  simp (disch := omega) [Tryz.ntmps63, go_sem]
  refine callK_data hc [] (by simp [go_sem, hp1, hp2, hp3]) (.inl rfl) (by simp [go_sem, ints_pure]) (fun _ => ?_) (by simp [tabG, go_sem])
  by_cases hOk : NetOk n
  · have hT := hOk.1
    have bad := bad hOk
    rw [netN_ok hOk, allCyc_ok hOk]
    simp (disch := omega) [go_sem]
    refine br_of (fun h1 => ?_) (fun h1 => ?_) <;> simp at h1
    · obtain ⟨e1, e2⟩ := bad (fun h => by have := h.1; omega)
      simp (disch := omega) [go_sem, h1, e1, e2]
    · simp (disch := omega) [go_sem]
      refine br_of (fun h2 => ?_) (fun h2 => ?_) <;> simp at h2
      · obtain ⟨e1, e2⟩ := bad (fun h => by have := h.1; omega)
        simp (disch := omega) [go_sem, h2, e1, e2]
      · simp (disch := omega) [go_sem]
        refine callK_bool hmay [] (by simp [go_sem]) (fun h3 => ?_) (fun h3 => ?_)
        · simp (disch := omega) [go_sem]
          refine callK_bool (contains_spec (cycN n (cycK n + 1)) x) [] (by simp [go_sem, ints_pure]) (fun h4 => ?_) (fun h4 => ?_)
          · simp (disch := omega) [go_sem]
            refine callK_bool (contains_spec (cycN n (cycK n + 1)) y) [] (by simp [go_sem, ints_pure]) (fun h5 => ?_) (fun h5 => ?_)
            · simp at h4 h5
              have hx := cyc_bound hT h4
              have hy := cyc_bound hT h5
              have hm := inM_iff.1 h3
              simp only at hm
              have hst := hT.2.2.1
              obtain ⟨j, rfl⟩ := Int.eq_ofNat_of_zero_le h1
              have hjl : j < n.weds.length := by omega
              have e1 := bondC_ok hOk (w := (j : Int)) (b := (t, m)) ⟨⟨h1, by omega⟩, h3, h4, h5⟩
              have e2 := bondN_ok e1
              have hv : votesAt n j = n.weds[j].votes := by simp [votesAt, hjl]
              have hvb : 1 ≤ n.weds[j].votes ∧ n.weds[j].votes ≤ 1048576 := (hOk.2.2.2.2.2 _ (List.getElem_mem hjl)).2.2.2.1
              have he : nth (n.weds.map wedV) j = wedV n.weds[j] := nth_map hjl
              have hmx : decide ((if x < y then y else x) - (if y < x then y else x) ≤ n.step) = bwish n x y := by
                rw [Bool.eq_iff_iff]
                simp only [bwish, Bool.and_eq_true, decide_eq_true_eq]
                split <;> split <;> omega
              rw [e2, hv]
              generalize n.weds[j] = u at *
              generalize bwish n x y = W at *
              simp (disch := omega) [go_sem, e1, hmx]
              refine br_of (fun h6 => ?_) (fun h6 => ?_) <;> simp at h6
              · have e4 : laterB W u.votes (t, m) = (W, 0) := by unfold laterB; rw [if_pos h6]
                rw [e4]
                simp (disch := omega) [go_sem, bondV]
              · simp (disch := omega) [go_sem, he, wedV]
                refine ⟨by omega, .inl (by kernel_rfl), ?_⟩
                refine br_of (fun h7 => ?_) (fun h7 => ?_) <;> simp at h7
                · have e4 : laterB W u.votes (t, m) = (W, 0) := by unfold laterB; rw [if_neg h6, if_pos h7]
                  rw [e4]
                  simp (disch := omega) [go_sem, bondV]
                · have e4 : laterB W u.votes (t, m) = (t, m + 1) := by unfold laterB; rw [if_neg h6, if_neg (by simp only; omega)]
                  rw [e4]
                  simp (disch := omega) [go_sem, bondV]
            · simp at h5
              obtain ⟨e1, e2⟩ := bad (fun h => h5 h.2.2.2)
              simp (disch := omega) [go_sem, e1, e2]
          · simp at h4
            obtain ⟨e1, e2⟩ := bad (fun h => h4 h.2.2.1)
            simp (disch := omega) [go_sem, e1, e2]
        · obtain ⟨e1, e2⟩ := bad (fun h => by have := h.2.1; simp only at h3 this; rw [this] at h3; cases h3)
          simp (disch := omega) [go_sem, e1, e2]
  · rw [netN_bad hOk, allCyc_bad hOk]
    have e := bondC_net (w := w) (b := (t, m)) (x := x) (y := y) hOk
    have e2 : bondV (bondN n w (t, m) x y) = .agg [.bool false, .int .i64 0] := by rw [bondN_bad (by rw [e]; decide)]; rfl
    simp (disch := omega) [go_sem, e, e2]
end Go.Proofs.YtpijmanjjhpkiaaGreatDoor
