
/- The layer ring. -/
import Derived.Test.YtdeionjkcmpnpaaGreatDoorAmClose
import Derived.Test.YtdeionjkcmpnpaaGreatDoorFacts
set_option linter.unusedSimpArgs false
set_option linter.unusedVariables false
namespace Go.Proofs.YtdeionjkcmpnpaaGreatDoor
open Go.AM Go.RowKit
set_option maxRecDepth 100000

/-! Contracts of the layer ring: sets of bits. -/
def bitN (i : Int) : Nat := if i < 0 ∨ i > 31 then 0 else 2 ^ i.toNat
theorem bitN_lt (i : Int) : bitN i < 4294967296 := by
  unfold bitN
  split
  · omega
  · have : i.toNat ≤ 31 := by omega
    calc 2 ^ i.toNat ≤ 2 ^ 31 := Nat.pow_le_pow_right (by omega) this
      _ < _ := by decide

theorem bit_spec (i : Int) : FnD Tryz.prog 214 [.int .i64 i] (.int .u32 (bitN i)) := by
  refine fnD_of mixed Tryz.func214 rfl rfl (by simp [Tryz.ntmps214]) fun hwf E => ?_
  simp (disch := omega) [Tryz.ntmps214, go_sem]
  refine br_of (fun h => ?_) (fun h => ?_) <;> simp at h <;> simp (disch := omega) [go_sem]
  · unfold bitN; rw [if_pos (by omega)]; rfl
  · have e : bitN i = 2 ^ i.toNat := by unfold bitN; rw [if_neg (by omega)]
    have := bitN_lt i
    refine ⟨by omega, ?_⟩
    rw [e] at this ⊢
    have e2 : (2 : Int) ^ i.toNat = ((2 ^ i.toNat : Nat) : Int) := by simp
    rw [e2]
    generalize 2 ^ i.toNat = q at this ⊢
    exact u32_wrap (by omega) (by omega)

def withoutN (s : Nat) (i : Int) : Nat := andNotN s (bitN i)
theorem bitN_testBit (i : Int) (j : Nat) (hj : j < 32) : (bitN i).testBit j = decide ((j : Int) = i) := by
  unfold bitN
  split
  · rename_i h
    simp; omega
  · rename_i h
    rw [Nat.testBit_two_pow]
    congr 1
    rw [eq_iff_iff]; omega
theorem high_bit {s : Nat} (hs : s < 4294967296) {j : Nat} (hj : ¬ j < 32) : s.testBit j = false := by
  have h2 : 2 ^ 32 ≤ 2 ^ j := Nat.pow_le_pow_right (by omega) (by omega)
  exact Nat.testBit_lt_two_pow (Nat.lt_of_lt_of_le hs h2)
theorem withoutN_lt (s : Nat) (i : Int) : withoutN s i < 4294967296 := BitVec.isLt _
theorem withoutN_testBit {s : Nat} (hs : s < 4294967296) (i : Int) (j : Nat) : (withoutN s i).testBit j = (s.testBit j && !decide ((j : Int) = i)) := by
  by_cases hj : j < 32
  · unfold withoutN andNotN
    rw [BitVec.toNat_and, BitVec.toNat_not, Nat.testBit_and]
    simp [Nat.mod_eq_of_lt hs, Nat.mod_eq_of_lt (bitN_lt i)]
    have hb := bitN_lt i
    rw [show 4294967295 - bitN i = 2 ^ 32 - (bitN i + 1) by omega, Nat.testBit_two_pow_sub_succ (n := 32) hb, bitN_testBit i j hj]
    simp [hj]
  · rw [high_bit (withoutN_lt s i) hj, high_bit hs hj]; rfl

def hasN (s : Nat) (i : Int) : Bool := decide (0 ≤ i) && s.testBit i.toNat
theorem hasN_and {s : Nat} (hs : s < 4294967296) (i : Int) : ((((s &&& bitN i : Nat) : Int)) != 0) = hasN s i := by
  unfold hasN
  by_cases h : i < 0 ∨ i > 31
  · have : bitN i = 0 := by unfold bitN; rw [if_pos h]
    rw [this]
    rcases h with h | h
    · simp [show ¬ 0 ≤ i by omega]
    · rw [high_bit hs (by omega : ¬ i.toNat < 32)]; simp
  · have : bitN i = 2 ^ i.toNat := by unfold bitN; rw [if_neg h]
    rw [this]
    simp only [show 0 ≤ i by omega, decide_true, Bool.true_and]
    cases hb : s.testBit i.toNat
    · have : s &&& 2 ^ i.toNat = 0 := by
        apply Nat.eq_of_testBit_eq
        intro j
        rw [Nat.testBit_and, Nat.testBit_two_pow, Nat.zero_testBit]
        by_cases e : i.toNat = j
        · subst e; simp [hb]
        · simp [e]
      rw [this]; rfl
    · have : s &&& 2 ^ i.toNat ≠ 0 := by
        intro e
        have h2 : (s &&& 2 ^ i.toNat).testBit i.toNat = true := by rw [Nat.testBit_and, hb, Nat.testBit_two_pow]; simp
        rw [e] at h2; simp at h2
      simp; omega
theorem has_spec (s : Nat) (i : Int) (hs : s < 4294967296) : FnD Tryz.prog 189 [.int .u32 s, .int .i64 i] (.bool (hasN s i)) := by
  refine fnD_of mixed Tryz.func189 rfl rfl (by simp [Tryz.ntmps189]) fun hwf E => ?_
  simp (disch := omega) [Tryz.ntmps189, go_sem]
  refine callK_data (bit_spec i) [] (by simp [go_sem]) (.inl rfl) (by simp [go_sem]) fun _ => ?_
  simp (disch := omega) [go_sem]
  have := bitN_lt i
  simp (disch := omega) [go_sem]
  exact hasN_and hs i
theorem without_spec (s : Nat) (i : Int) (hs : s < 4294967296) : FnD Tryz.prog 191 [.int .u32 s, .int .i64 i] (.int .u32 (withoutN s i)) := by
  refine fnD_of mixed Tryz.func191 rfl rfl (by simp [Tryz.ntmps191]) fun hwf E => ?_
  simp (disch := omega) [Tryz.ntmps191, go_sem]
  refine callK_data (bit_spec i) [] (by simp [go_sem]) (.inl rfl) (by simp [go_sem]) fun _ => ?_
  simp (disch := omega) [go_sem]
  rfl

/-! Contracts of the layer ring: the lowest bit, how many bits. -/
theorem odd_part : ∀ (s : Nat), s ≠ 0 → ∃ k m, s = 2 ^ (k + 1) * m + 2 ^ k := by
  intro s
  induction s using Nat.strongRecOn with
  | ind s ih =>
    intro h
    by_cases ho : s % 2 = 1
    · exact ⟨0, s / 2, by simp; omega⟩
    · obtain ⟨k, m, e⟩ := ih (s / 2) (by omega) (by omega)
      refine ⟨k + 1, m, ?_⟩
      have h2 : s = 2 * (s / 2) := by omega
      rw [h2, e, Nat.pow_succ 2 (k + 1), Nat.pow_succ 2 k]
      rw [Nat.mul_add, ← Nat.mul_assoc, Nat.mul_comm 2 (2 ^ k * 2), Nat.mul_comm 2 (2 ^ k)]

def lowN (s : Nat) : Nat := ((List.range 32).find? fun j => s.testBit j).getD 32

theorem low_ex (s : Nat) (h : s ≠ 0) (hs : s < 4294967296) : lowN s < 32 ∧ s.testBit (lowN s) = true ∧ (∀ j, j < lowN s → s.testBit j = false) ∧
    s &&& (4294967296 - s) = 2 ^ lowN s := by
  obtain ⟨k, m, e⟩ := odd_part s h
  have hp : 2 ^ k < 2 ^ (k + 1) := Nat.pow_lt_pow_right (by omega) (by omega)
  have hpos : 0 < 2 ^ k := Nat.two_pow_pos k
  have b1 : ∀ j, s.testBit j = if j < k + 1 then decide (k = j) else m.testBit (j - (k + 1)) := by
    intro j
    rw [e, Nat.testBit_two_pow_mul_add _ hp, Nat.testBit_two_pow]
  have b2 : ∀ j, (s - 1).testBit j = if j < k + 1 then decide (j < k) else m.testBit (j - (k + 1)) := by
    intro j
    have : s - 1 = 2 ^ (k + 1) * m + (2 ^ k - 1) := by omega
    rw [this, Nat.testBit_two_pow_mul_add _ (by omega), Nat.testBit_two_pow_sub_one]
  have hk : s.testBit k = true := by rw [b1]; simp
  have hlo : ∀ j, j < k → s.testBit j = false := by
    intro j hj
    rw [b1, if_pos (by omega)]; simp; omega
  have hk32 : k < 32 := by
    apply Classical.byContradiction
    intro h'
    rw [high_bit hs h'] at hk; cases hk
  have hlow : lowN s = k := by
    unfold lowN
    have : (List.range 32).find? (fun j => s.testBit j) = some k := by
      rw [List.find?_range_eq_some]
      exact ⟨hk, by simp [hk32], fun j hj => by simp [hlo j hj]⟩
    rw [this]; rfl
  rw [hlow]
  refine ⟨hk32, hk, hlo, ?_⟩
  apply Nat.eq_of_testBit_eq
  intro j
  rw [Nat.testBit_and, Nat.testBit_two_pow]
  have e3 : 4294967296 - s = 2 ^ 32 - ((s - 1) + 1) := by omega
  rw [e3, Nat.testBit_two_pow_sub_succ (n := 32) (by omega), b1, b2]
  by_cases h1 : j < k + 1
  · rw [if_pos h1, if_pos h1]
    by_cases h2 : k = j
    · subst h2; simp [hk32]
    · simp [h2]
  · rw [if_neg h1, if_neg h1]
    cases m.testBit (j - (k + 1)) <;> simp <;> omega

def tab : List V := [.agg ([0, 1, 28, 2, 29, 14, 24, 3, 30, 22, 20, 15, 25, 17, 4, 8, 31, 27, 13, 23, 21, 19, 16, 7, 26, 12, 18, 6, 11, 5, 10, 9].map fun n => V.int .u8 n)]
def tabG : Globs := [(0, 32, tab)]
def hashI (k : Nat) : Int := (IntKind.u32.wrap ((2 ^ k : Nat) * 125613361)).fdiv 134217728
theorem hash_ok (k : Nat) (hk : k < 32) : 0 ≤ hashI k ∧ hashI k < 32 ∧ partV Tryz.prog 5 (nth tab 0) (hashI k).toNat = some (.int .u8 k) := by
  have h : ∀ k : Fin 32, 0 ≤ hashI k ∧ hashI k < 32 := by decide +kernel
  refine ⟨(h ⟨k, hk⟩).1, (h ⟨k, hk⟩).2, ?_⟩
  have h2 : ∀ k : Fin 32, ([0, 1, 28, 2, 29, 14, 24, 3, 30, 22, 20, 15, 25, 17, 4, 8, 31, 27, 13, 23, 21, 19, 16, 7, 26, 12, 18, 6, 11, 5, 10, 9] : List Nat)[(hashI k).toNat]? = some k.val := by decide +kernel
  have h3 := h2 ⟨k, hk⟩
  show (match isRowT Tryz.prog 5, (nth tab 0).cl with
    | some true, some cs => if (hashI k).toNat = 0 ∧ cs.length = Tryz.prog.cellsOf 5 then some (nth tab 0) else if (hashI k).toNat + Tryz.prog.cellsOf 5 ≤ cs.length then some (.agg ((cs.drop (hashI k).toNat).take (Tryz.prog.cellsOf 5))) else none
    | some false, some cs => cs[(hashI k).toNat]?
    | some false, none => if (hashI k).toNat = 0 then (match nth tab 0 with | .opt _ _ | .tup _ => none | _ => some (nth tab 0)) else none
    | _, _ => none) = _
  simp only [frow5]
  show ([0, 1, 28, 2, 29, 14, 24, 3, 30, 22, 20, 15, 25, 17, 4, 8, 31, 27, 13, 23, 21, 19, 16, 7, 26, 12, 18, 6, 11, 5, 10, 9].map fun n : Nat => V.int .u8 n)[(hashI k).toNat]? = _
  rw [List.getElem?_map]
  show (([0, 1, 28, 2, 29, 14, 24, 3, 30, 22, 20, 15, 25, 17, 4, 8, 31, 27, 13, 23, 21, 19, 16, 7, 26, 12, 18, 6, 11, 5, 10, 9] : List Nat)[(hashI k).toNat]?).map _ = _
  rw [h3]; rfl
theorem trail_spec (s : Nat) (h0 : s ≠ 0) (hs : s < 4294967296) : FnD Tryz.prog 215 [.int .u32 s] (.int .i64 (lowN s)) tabG := by
  obtain ⟨hk, -, -, he⟩ := low_ex s h0 hs
  refine fnD_of mixed Tryz.func215 rfl rfl (by simp [Tryz.ntmps215]) fun hwf E => ?_
  simp (disch := omega) [Tryz.ntmps215, go_sem, tabG]
  refine br_of (fun h => ?_) (fun h => ?_) <;> simp at h
  · exact absurd h h0
  · have hpos : 0 < s := by omega
    simp (disch := omega) [go_sem, he]
    clear he
    generalize lowN s = k at hk ⊢
    have hx : (IntKind.u32.wrap ((2 : Int) ^ k * 125613361)).fdiv 134217728 = hashI k := by simp [hashI]
    have hb := hash_ok k hk
    simp only [hx]
    refine ⟨⟨hb.1, hb.2.1⟩, ?_⟩
    have hl : (0 : Nat) < tab.length := by decide
    rw [hb.2.2]
    simp (disch := omega) [go_sem, hl]

def leastN (s : Nat) : Int := if s = 0 then -1 else lowN s
theorem least_spec (s : Nat) (hs : s < 4294967296) : FnD Tryz.prog 190 [.int .u32 s] (.int .i64 (leastN s)) tabG := by
  refine fnD_of mixed Tryz.func190 rfl rfl (by simp [Tryz.ntmps190]) fun hwf E => ?_
  simp (disch := omega) [Tryz.ntmps190, go_sem]
  refine br_of (fun h => ?_) (fun h => ?_) <;> simp at h
  · simp (disch := omega) [go_sem, leastN, h]
  · simp (disch := omega) [go_sem]
    refine callK_data (trail_spec s h hs) [] (by simp [go_sem]) (.inl rfl) (by simp [go_sem]) (fun _ => ?_) (by simp [tabG, go_sem])
    simp (disch := omega) [go_sem, leastN, h]

/-! how many bits -/
def pop8 (n : Nat) : Nat := (List.range 8).countP fun j => n.testBit j
def popN (s : Nat) : Nat := (List.range 32).countP fun j => s.testBit j
def tab8 : List Nat := (List.range 256).map pop8
theorem pop_parts (s : Nat) (hs : s < 4294967296) : popN s = pop8 (s % 256) + pop8 (s / 256 % 256) + pop8 (s / 65536 % 256) + pop8 (s / 16777216) := by
  have r : List.range 32 = List.range 8 ++ (List.range 8).map (8 + ·) ++ (List.range 8).map (16 + ·) ++ (List.range 8).map (24 + ·) := by decide
  unfold popN
  rw [r, List.countP_append, List.countP_append, List.countP_append, List.countP_map, List.countP_map, List.countP_map]
  unfold pop8
  have e0 : ∀ j ∈ List.range 8, (s.testBit j = true ↔ (s % 256).testBit j = true) := by
    intro j hj
    have hj : j < 8 := by simpa using hj
    rw [show (256 : Nat) = 2 ^ 8 from rfl, Nat.testBit_mod_two_pow]; simp [hj]
  have e1 : ∀ j ∈ List.range 8, (((fun j => s.testBit j) ∘ (8 + ·)) j = true ↔ (s / 256 % 256).testBit j = true) := by
    intro j hj
    have hj : j < 8 := by simpa using hj
    rw [show (256 : Nat) = 2 ^ 8 from rfl, Nat.testBit_mod_two_pow, Nat.testBit_div_two_pow]; simp [hj, Nat.add_comm]
  have e2 : ∀ j ∈ List.range 8, (((fun j => s.testBit j) ∘ (16 + ·)) j = true ↔ (s / 65536 % 256).testBit j = true) := by
    intro j hj
    have hj : j < 8 := by simpa using hj
    rw [show (256 : Nat) = 2 ^ 8 from rfl, show (65536 : Nat) = 2 ^ 16 from rfl, Nat.testBit_mod_two_pow, Nat.testBit_div_two_pow]; simp [hj, Nat.add_comm]
  have e3 : ∀ j ∈ List.range 8, (((fun j => s.testBit j) ∘ (24 + ·)) j = true ↔ (s / 16777216).testBit j = true) := by
    intro j hj
    rw [show (16777216 : Nat) = 2 ^ 24 from rfl, Nat.testBit_div_two_pow]; simp [Nat.add_comm]
  rw [List.countP_congr e0, List.countP_congr e1, List.countP_congr e2, List.countP_congr e3]
theorem pop8_le (n : Nat) : pop8 n ≤ 8 := by
  have := List.countP_le_length (p := fun j => n.testBit j) (l := List.range 8)
  simpa [pop8] using this
theorem ones_key (s : Nat) (hs : s < 4294967296) (T : ByteArray) (hT : ∀ i, i < 256 → byteAt T i = pop8 i) :
    IntKind.i64.wrap (IntKind.u8.wrap (IntKind.u8.wrap (IntKind.u8.wrap (byteAt T ((s : Int) / 16777216).toNat + byteAt T ((s : Int) / 65536 % 256).toNat) + byteAt T ((s : Int) / 256 % 256).toNat) + byteAt T ((s : Int) % 256).toNat)) = popN s := by
  rw [show ((s : Int) / 16777216).toNat = s / 16777216 by omega, show ((s : Int) / 65536 % 256).toNat = s / 65536 % 256 by omega, show ((s : Int) / 256 % 256).toNat = s / 256 % 256 by omega, show ((s : Int) % 256).toNat = s % 256 by omega]
  rw [hT _ (by omega), hT _ (by omega), hT _ (by omega), hT _ (by omega), pop_parts s hs]
  have h1 := pop8_le (s / 16777216)
  have h2 := pop8_le (s / 65536 % 256)
  have h3 := pop8_le (s / 256 % 256)
  have h4 := pop8_le (s % 256)
  rw [u8_wrap (n := (pop8 (s / 16777216) : Int) + pop8 (s / 65536 % 256)) (by omega) (by omega), u8_wrap (n := (pop8 (s / 16777216) : Int) + pop8 (s / 65536 % 256) + pop8 (s / 256 % 256)) (by omega) (by omega),
    u8_wrap (n := (pop8 (s / 16777216) : Int) + pop8 (s / 65536 % 256) + pop8 (s / 256 % 256) + pop8 (s % 256)) (by omega) (by omega), i64_wrap (by omega) (by omega)]
  omega
theorem ones_spec (s : Nat) (hs : s < 4294967296) : FnD Tryz.prog 216 [.int .u32 s] (.int .i64 (popN s)) := by
  refine fnD_of mixed Tryz.func216 rfl rfl (by simp [Tryz.ntmps216]) fun hwf E => ?_
  have f1 : (s : Int).fdiv 16777216 = ((s / 16777216 : Nat) : Int) := by rw [Int.fdiv_eq_ediv_of_nonneg _ (by omega)]; rfl
  have f2 : (s : Int).fdiv 65536 = ((s / 65536 : Nat) : Int) := by rw [Int.fdiv_eq_ediv_of_nonneg _ (by omega)]; rfl
  have f3 : (s : Int).fdiv 256 = ((s / 256 : Nat) : Int) := by rw [Int.fdiv_eq_ediv_of_nonneg _ (by omega)]; rfl
  simp (disch := omega) [Tryz.ntmps216, go_sem, f1, f2, f3]
  refine ⟨⟨by omega, by omega⟩, ⟨by omega, by omega⟩, ⟨by omega, by omega⟩, ⟨by omega, by omega⟩, .inl (by kernel_rfl), ?_⟩
  exact ones_key s hs _ (by decide +kernel)
theorem count_spec (s : Nat) (hs : s < 4294967296) : FnD Tryz.prog 192 [.int .u32 s] (.int .i64 (popN s)) := by
  refine fnD_of mixed Tryz.func192 rfl rfl (by simp [Tryz.ntmps192]) fun hwf E => ?_
  simp (disch := omega) [Tryz.ntmps192, go_sem]
  refine callK_data (ones_spec s hs) [] (by simp [go_sem]) (.inl rfl) (by simp [go_sem]) fun _ => ?_
  simp (disch := omega) [go_sem]
end Go.Proofs.YtdeionjkcmpnpaaGreatDoor
