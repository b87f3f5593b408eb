
/- The reference stoplineref03: numbers as bytes, sums. -/
import Derived.Test.YtdeionjkcmpnpaaGreatDoorRaw
set_option linter.unusedSimpArgs false
set_option linter.unusedVariables false
namespace Go.Proofs.YtdeionjkcmpnpaaGreatDoor
open Go.AM Go.RowKit
set_option maxRecDepth 100000

/-! sums, bit by bit -/
def bitS (r : Nat) : Nat := if r % 2 = 1 then r / 2 ^^^ 3988292384 else r / 2
def bitK (r : Nat) : Nat → Nat
  | 0 => r
  | k + 1 => bitS (bitK r k)
theorem xor_div2 (a b : Nat) : (a ^^^ b) / 2 = a / 2 ^^^ b / 2 := by
  have := Nat.shiftRight_xor_distrib (a := a) (b := b) (i := 1)
  simpa [Nat.shiftRight_succ] using this
theorem xor_div16 (a b : Nat) : (a ^^^ b) / 16 = a / 16 ^^^ b / 16 := by
  have := Nat.shiftRight_xor_distrib (a := a) (b := b) (i := 4)
  simpa [Nat.shiftRight_eq_div_pow] using this
theorem xor_mod2 (a b : Nat) : (a ^^^ b) % 2 = a % 2 ^^^ b % 2 := by
  have := Nat.xor_mod_two_pow (a := a) (b := b) (n := 1)
  simpa using this
theorem bitS_xor (a b : Nat) : bitS (a ^^^ b) = bitS a ^^^ bitS b := by
  unfold bitS
  rw [xor_mod2, xor_div2]
  have ha : a % 2 = 0 ∨ a % 2 = 1 := by omega
  have hb : b % 2 = 0 ∨ b % 2 = 1 := by omega
  rcases ha with ha | ha <;> rcases hb with hb | hb <;> simp [ha, hb]
  · rw [Nat.xor_assoc]
  · rw [Nat.xor_assoc, Nat.xor_comm (b / 2), ← Nat.xor_assoc]
  · rw [Nat.xor_assoc, Nat.xor_comm 3988292384, Nat.xor_assoc, Nat.xor_self, Nat.xor_zero]
theorem bitK_xor (a b : Nat) : ∀ k, bitK (a ^^^ b) k = bitK a k ^^^ bitK b k
  | 0 => rfl
  | k + 1 => by simp only [bitK]; rw [bitK_xor a b k, bitS_xor]
theorem bitK4_up (q : Nat) : bitK (q * 16) 4 = q := by
  have h : ∀ x, bitS (x * 2) = x := fun x => by unfold bitS; rw [if_neg (by omega)]; omega
  show bitS (bitS (bitS (bitS (q * 16)))) = q
  rw [show q * 16 = q * 2 * 2 * 2 * 2 by omega, h, h, h, h]
theorem bitK4_low : ∀ t, t < 16 → bitK t 4 = tbl t := by decide +kernel
theorem split16 (r : Nat) : r = r / 16 * 16 ^^^ r % 16 := by
  have h := Nat.two_pow_add_eq_or_of_lt (i := 4) (b := r % 16) (by omega) (r / 16)
  apply Nat.eq_of_testBit_eq
  intro i
  have e : r = 2 ^ 4 * (r / 16) + r % 16 := by omega
  conv => lhs; rw [e, h]
  rw [Nat.testBit_or, Nat.testBit_xor, Nat.mul_comm (r / 16) 16]
  by_cases hi : i < 4
  · have : (2 ^ 4 * (r / 16)).testBit i = false := by
      rw [Nat.testBit_two_pow_mul]; simp; omega
    rw [this]; simp
  · have : (r % 16).testBit i = false := by
      rw [show (16 : Nat) = 2 ^ 4 by rfl, Nat.testBit_mod_two_pow]; simp; omega
    rw [this]; simp
theorem bitK4 (r : Nat) : bitK r 4 = r / 16 ^^^ tbl (r % 16) := by
  conv => lhs; rw [split16 r]
  rw [bitK_xor, bitK4_up, bitK4_low _ (by omega)]
theorem bitK8 (r : Nat) : bitK r 8 = bitK (bitK r 4) 4 := rfl
theorem and15_mod (a : Nat) : a &&& 15 = a % 16 := Nat.and_two_pow_sub_one_eq_mod a 4
theorem crcS_bits (r : Nat) (x : UInt8) : bitK (r ^^^ x.toNat) 8 = crcS r x := by
  have hx := x.toNat_lt
  rw [bitK8, bitK4, bitK4]
  unfold crcS crcH
  rw [and15_mod, and15_mod]
  have e : (r ^^^ x.toNat) / 16 ^^^ tbl ((r ^^^ x.toNat) % 16) = (r / 16 ^^^ tbl ((r ^^^ x.toNat) % 16)) ^^^ x.toNat / 16 := by
    rw [xor_div16, Nat.xor_assoc, Nat.xor_comm (x.toNat / 16), ← Nat.xor_assoc]
  rw [e, xor_div16 _ (x.toNat / 16), show x.toNat / 16 / 16 = 0 by omega, Nat.xor_zero]

def crcB (l : List UInt8) (k : Nat) (j : Nat) : Nat := if h : k < l.length then bitK (crcK l k ^^^ l[k].toNat) j else 0
theorem bitS_lt {r : Nat} (h : r < 4294967296) : bitS r < 4294967296 := by
  unfold bitS; split
  · exact Nat.xor_lt_two_pow (n := 32) (by omega) (by decide)
  · omega
theorem bitK_lt {r : Nat} (h : r < 4294967296) : ∀ k, bitK r k < 4294967296
  | 0 => h
  | k + 1 => bitS_lt (bitK_lt h k)
theorem natTmod (a b : Nat) : Int.tmod (a : Int) (b : Int) = ((a % b : Nat) : Int) := rfl
theorem natTdiv (a b : Nat) : Int.tdiv (a : Int) (b : Int) = ((a / b : Nat) : Int) := rfl

theorem r3sum_spec (l : List UInt8) : FnD Tryz.prog 92 [.sl 1 (bts l)] (.int .u32 (crc l)) := by
  have hp := bts_pure l
  refine fnD_of mixed Tryz.func92 rfl rfl (by simp [Tryz.ntmps92]) fun hwf E => ?_
  simp (disch := omega) [go_sem, bts_len] at hwf
  simp (disch := omega) [Tryz.ntmps92, go_sem, bts_len]
  refine awz_loop mixed (fun k : Nat => ⟨[(4, .int .i64 k), (3, .int .u32 (crcK l k)), (0, .sl 1 (bts l))], [], 1024, [], 34, 0, []⟩) (fun k => k ≤ l.length) (fun k => l.length - k) 0 ?_ ?_ ?_
  · omega
  · refine Le.mk [] [] ⟨rfl, rfl, rfl⟩ ?_ ?_ ?_ <;> simp [go_sem, bts_len, hp, crcK]
  · intro k hk
    have hr := crcK_lt l k
    simp (disch := omega) [go_sem, bts_len]
    refine br_of (fun h => ?_) (fun h => ?_) <;> simp at h
    · have hx := l[k].toNat_lt
      have hs := crcK_succ h
      rw [← crcS_bits] at hs
      have hnb := nth_bts h
      generalize crcK l k = r at *
      generalize l[k].toNat = x at *
      have e1 := bits32xor (a := r) (b := x) hr (by omega)
      have hw : IntKind.u32.wrap (x : Int) = (x : Int) := u32_wrap (by omega) (by omega)
      have hr0 : r ^^^ x < 4294967296 := Nat.xor_lt_two_pow (n := 32) hr (by omega)
      generalize r ^^^ x = r0 at *
      simp (disch := omega) [go_sem, bts_len, h, hnb, hw, e1]
      refine awz_loop mixed (fun j : Nat => ⟨[(5, .int .i64 j), (4, .int .i64 k), (3, .int .u32 (bitK r0 j)), (0, .sl 1 (bts l))], [], 2048, [], 34, 0, []⟩) (fun j => j ≤ 8) (fun j => 8 - j) 0 ?_ ?_ ?_
      · omega
      · refine Le.mk [] [] ⟨rfl, rfl, rfl⟩ ?_ ?_ ?_ <;> simp [go_sem, bts_len, hp, bitK]
      · intro j hj
        have hb := bitK_lt hr0 j
        have hsu : bitK r0 (j + 1) = bitS (bitK r0 j) := rfl
        simp (disch := omega) [go_sem, bts_len]
        refine br_of (fun h2 => ?_) (fun h2 => ?_) <;> simp at h2
        · generalize bitK r0 j = b at *
          have e2 : bitsV .xor .u32 ((b : Int) / 2) 3988292384 = some (.int .u32 ((b / 2 ^^^ 3988292384 : Nat) : Int)) := bits32xor (a := b / 2) (b := 3988292384) (by omega) (by decide)
          have t1 := natTmod b 2
          have t2 := natTdiv b 2
          push_cast at t1 t2
          simp (disch := omega) [go_sem, bts_len, h2, t1, t2]
          refine br_of (fun h3 => ?_) (fun h3 => ?_) <;> simp at h3
          · have hq : bitS b = b / 2 ^^^ 3988292384 := by unfold bitS; rw [if_pos (by omega)]
            simp (disch := omega) [go_sem, bts_len, e2]
            refine round_of (j + 1) (by omega) (by omega) (Le.mk [] [] ⟨rfl, rfl, rfl⟩ ?_ ?_ ?_) <;> simp [go_sem, bts_len, hp, hsu, hq, t2]
          · have hq : bitS b = b / 2 := by unfold bitS; rw [if_neg (by omega)]
            simp (disch := omega) [go_sem, bts_len]
            refine round_of (j + 1) (by omega) (by omega) (Le.mk [] [] ⟨rfl, rfl, rfl⟩ ?_ ?_ ?_) <;> simp [go_sem, bts_len, hp, hsu, hq, t2]
        · have hj8 : j = 8 := by omega
          subst hj8
          simp (disch := omega) [go_sem, bts_len]
          refine round_of (k + 1) (by omega) (by omega) (Le.mk [] [] ⟨rfl, rfl, rfl⟩ ?_ ?_ ?_) <;> simp [go_sem, bts_len, hp, hs]
    · have hkl : k = l.length := by omega
      subst hkl
      have hsg : IntKind.u32.signed = false := rfl
      have e1 : bitsV .xor .u32 4294967295 (crcK l l.length : Int) = some (.int .u32 ((4294967295 ^^^ crcK l l.length : Nat) : Int)) := bits32xor (a := 4294967295) (b := crcK l l.length) (by omega) hr
      simp (disch := omega) [go_sem, bts_len, hsg, e1]
      rfl

/-! Put, of four bytes -/
theorem divpow (n k : Nat) : n / 256 ^ k / 256 = n / 256 ^ (k + 1) := by rw [Nat.div_div_eq_div_mul, Nat.pow_succ]
def putQ (n k : Nat) : Nat := n / 256 ^ k
theorem putQ_zero (n : Nat) : putQ n 0 = n := by simp [putQ]
def putP (n k : Nat) : List UInt8 := (List.range k).map fun i => UInt8.ofNat (n / 2 ^ (8 * i))
theorem putP_len (n k : Nat) : (putP n k).length = k := by simp [putP]
theorem putP_succ (n k : Nat) : putP n (k + 1) = putP n k ++ [UInt8.ofNat (n / 2 ^ (8 * k))] := by simp [putP, List.range_succ]
theorem putP_four (n : Nat) : putP n 4 = put4 n := rfl
theorem r3put_spec (n : Nat) (hn : n < 4294967296) : FnD Tryz.prog 91 [.int .u64 n, .int .i64 4] (.tup [.sl 1 (bts (put4 n)), .int .i64 0]) := by
  refine fnD_of mixed Tryz.func91 rfl rfl (by simp [Tryz.ntmps91]) fun hwf E => ?_
  clear hwf
  simp (disch := omega) [Tryz.ntmps91, go_sem]
  refine awz_loop mixed (fun k : Nat => ⟨[(7, .int .i64 k), (6, .obj 1008 k), (1, .int .i64 4), (0, .int .u64 (putQ n k))], [(1008, ⟨.arr, 5, 1, bts (putP n k)⟩)], 1024, [], 30, 0, []⟩) (fun k => k ≤ 4) (fun k => 4 - k) 0 ?_ ?_ ?_
  · omega
  · refine Le.mk [(1008, none)] [] ⟨rfl, rfl, rfl⟩ ?_ ?_ ?_ <;> simp [go_sem, putP, bts, putQ_zero]
  · intro k hk
    have hpp := bts_pure (putP n k)
    have hpl := putP_len n k
    simp (disch := omega) [go_sem, bts_len]
    refine br_of (fun h => ?_) (fun h => ?_) <;> simp at h
    · have hb : bts (putP n (k + 1)) = bts (putP n k) ++ [.int .u8 ((putQ n k : Int) % 256)] := by
        have : (2 : Nat) ^ (8 * k) = 256 ^ k := by rw [Nat.pow_mul]
        rw [putP_succ, bts_app, this]
        simp [bts, putQ]
      have hdl : putQ n k ≤ n := Nat.div_le_self _ _
      have hdv : putQ n (k + 1) = putQ n k / 256 := (divpow n k).symm
      generalize putQ n k = q at *
      have t1 := natTmod q 256
      have t2 := natTdiv q 256
      push_cast at t1 t2 hb
      have hw : IntKind.u8.wrap ((q : Int) % 256) = (q : Int) % 256 := u8_wrap (by omega) (by omega)
      simp (disch := omega) [go_sem, h, t1, t2, hw, bts_len, hpl]
      refine ⟨by omega, ?_⟩
      refine round_of (k + 1) (by omega) (by omega) (Le.mk [(1008, some 1008)] [1008] ⟨rfl, rfl, rfl⟩ ?_ ?_ ?_) <;> simp [go_sem, hpp, hb, hdv]
    · have hk4 : k = 4 := by omega
      subst hk4
      have h0 : putQ n 4 = 0 := Nat.div_eq_of_lt (by omega)
      rw [h0, ← putP_four]
      simp (disch := omega) [go_sem, hpl, bts_len, hpp]

theorem r3small_spec (n : Nat) (hn : n < 18446744073709551616) : FnD Tryz.prog 156 [.int .u64 n] (.sl 1 (bts (small n))) := by
  refine fnD_of mixed Tryz.func156 rfl rfl (by simp [Tryz.ntmps156]) fun hwf E => ?_
  clear hwf
  simp (disch := omega) [Tryz.ntmps156, go_sem]
  refine awz_loop mixed (fun p : List UInt8 × Nat × Nat => ⟨[(3, .obj 1008 p.1.length), (0, .int .u64 p.2.1)], [(1008, ⟨.arr, 5, 1, bts p.1⟩)], 1024, [], 20, 0, []⟩) (smI n) (fun p : List UInt8 × Nat × Nat => p.2.2) ([], n, 10) ⟨rfl, hn, by simp only; omega, rfl⟩ ?_ ?_
  · refine Le.mk [(1008, none)] [] ⟨rfl, rfl, rfl⟩ ?_ ?_ ?_ <;> simp [go_sem, bts]
  · rintro ⟨pre, m, f⟩ ⟨h1, h2, h3, h4⟩
    simp only at h1 h2 h3 h4
    have hby : (UInt8.ofNat (m % 128 + 128)).toNat = m % 128 + 128 := by rw [UInt8.toNat_ofNat']; omega
    have hby2 : (UInt8.ofNat m).toNat = m % 256 := UInt8.toNat_ofNat' ..
    have key : 127 < m → ∃ g, f = g + 1 ∧ smI n (pre ++ [UInt8.ofNat (m % 128 + 128)], m / 128, g) := fun hm => by
      cases f with
      | zero => simp at h3; omega
      | succ g =>
        refine ⟨g, rfl, ?_, by simp only; omega, ?_, by simp; omega⟩
        · rw [← h1, List.append_assoc]
          congr 1
          show UInt8.ofNat (m % 128 + 128) :: smallF g (m / 128) = smallF (g + 1) m
          rw [smallF, if_neg (by omega)]
        · simp only
          rw [Nat.pow_succ] at h3
          exact Nat.div_lt_of_lt_mul (by rw [Nat.mul_comm]; exact h3)
    have hpp := bts_pure pre
    simp (disch := omega) [go_sem, bts_len]
    refine br_of (fun h => ?_) (fun h => ?_) <;> simp at h
    · obtain ⟨g, rfl, hI⟩ := key (by omega)
      have t1 := natTmod m 128
      have t2 := natTdiv m 128
      push_cast at t1 t2
      have hw : IntKind.u8.wrap ((m : Int) % 128) = (m : Int) % 128 := u8_wrap (by omega) (by omega)
      have hba : bts (pre ++ [UInt8.ofNat (m % 128 + 128)]) = bts pre ++ [.int .u8 ((m : Int) % 128 + 128)] := by
        rw [bts_app]
        congr 1
        show [V.int .u8 ((UInt8.ofNat (m % 128 + 128)).toNat : Int)] = _
        rw [hby]; push_cast; rfl
      simp (disch := omega) [go_sem, h, t1, t2, hw, bts_len]
      refine ⟨by omega, ?_⟩
      refine round_of (pre ++ [UInt8.ofNat (m % 128 + 128)], m / 128, g) hI (by show g < g + 1; omega) (Le.mk [(1008, some 1008)] [1008] ⟨rfl, rfl, rfl⟩ ?_ ?_ ?_) <;> simp [go_sem, hba, hpp, -UInt8.ofNat_add]
    · have hs : small n = pre ++ [UInt8.ofNat m] := by rw [← h1, smallF_end (by omega)]
      have hba : bts (pre ++ [UInt8.ofNat m]) = bts pre ++ [.int .u8 ((m % 256 : Nat) : Int)] := by rw [bts_app]; simp [bts, hby2]
      rw [hs, hba]
      simp (disch := omega) [go_sem, w8, bts_len]
      refine ⟨by omega, ?_⟩
      exact all2_append (argsLe_self hpp) (by simp [go_sem])

/-! Read -/
theorem nth_none : ∀ (l : List V) (k : Nat), l.length ≤ k → nth l k = .bot
  | [], _, _ => rfl
  | _ :: r, 0, h => by simp at h
  | _ :: r, k + 1, h => by simp only [nth]; exact nth_none r k (by simpa using h)
def hiB (l : List UInt8) : Nat := l.foldr (fun x n => x.toNat % 128 + 128 * n) 0
theorem hiB_app (l : List UInt8) (x : UInt8) : hiB (l ++ [x]) = hiB l + 128 ^ l.length * (x.toNat % 128) := by
  induction l with
  | nil => simp [hiB]
  | cons y l ih =>
    show y.toNat % 128 + 128 * hiB (l ++ [x]) = y.toNat % 128 + 128 * hiB l + 128 ^ (l.length + 1) * (x.toNat % 128)
    rw [ih, Nat.pow_succ, Nat.mul_add, Nat.add_assoc]
    congr 2
    rw [← Nat.mul_assoc, Nat.mul_comm 128]
theorem hiB_lt : ∀ l : List UInt8, hiB l < 128 ^ l.length
  | [] => by simp [hiB]
  | x :: l => by
    have := hiB_lt l
    show x.toNat % 128 + 128 * hiB l < 128 ^ (l.length + 1)
    rw [Nat.pow_succ]
    omega
theorem hiB_drop : ∀ (l : List UInt8) (i : Nat), hiB (l.drop i) ≤ hiB l
  | l, 0 => by simp
  | [], i + 1 => by simp
  | x :: l, i + 1 => by
    have := hiB_drop l i
    show hiB (l.drop i) ≤ x.toNat % 128 + 128 * hiB l
    omega
theorem hiB_cons (x : UInt8) (l : List UInt8) : hiB (x :: l) = x.toNat % 128 + 128 * hiB l := rfl
theorem hiB_take {l : List UInt8} {k : Nat} (h : k < l.length) : hiB (l.take (k + 1)) = hiB (l.take k) + l[k].toNat % 128 * 2 ^ (7 * k) := by
  rw [List.take_succ_eq_append_getElem h, hiB_app, List.length_take, Nat.min_eq_left (by omega), Nat.mul_comm, show (128 : Nat) = 2 ^ 7 by rfl, ← Nat.pow_mul]
def p9 (l : List UInt8) (k : Nat) : Prop := k ≤ l.length ∧ k ≤ 10 ∧ (k ≤ 9 → readN l = readK k (hiB (l.take k)) (l.drop k)) ∧ (k = 10 → readN l = none)
theorem p9_step {l : List UInt8} {k : Nat} (h : p9 l k) (hk : k < l.length) (h10 : k < 10) (hx : 128 ≤ l[k].toNat) : p9 l (k + 1) := by
  obtain ⟨h1, h2, h3, h4⟩ := h
  have h3 := h3 (by omega)
  rw [List.drop_eq_getElem_cons hk, readK] at h3
  refine ⟨by omega, by omega, fun h9 => ?_, fun h => ?_⟩
  · rw [h3, if_neg (by omega), if_neg (by omega), hiB_take hk]
  · rw [h3, if_pos (by omega)]
theorem p9_end {l : List UInt8} {k : Nat} (h : p9 l k) : readN l = if h : k < l.length then (if k < 10 ∧ ¬ (k = 9 ∧ 1 < l[k].toNat) ∧ ¬ (0 < k ∧ l[k].toNat = 0) ∧ l[k].toNat < 128 then some (hiB (l.take (k + 1)), k + 1) else readN l) else none := by
  obtain ⟨h1, h2, h3, h4⟩ := h
  by_cases hk : k < l.length
  · rw [dif_pos hk]
    split
    · next hc =>
      have h3 := h3 (by omega)
      rw [List.drop_eq_getElem_cons hk, readK] at h3
      rw [h3, if_neg hc.2.1, if_pos hc.2.2.2, if_neg (by have := hc.2.2.1; omega), hiB_take hk]
    · rfl
  · rw [dif_neg hk]
    by_cases h9 : k ≤ 9
    · rw [h3 h9, List.drop_eq_nil_of_le (by omega), readK]
    · exact h4 (by omega)
theorem p9_bad {l : List UInt8} {k : Nat} (h : p9 l k) (hk : k < l.length) (hb : ¬ k < 10 ∨ (k = 9 ∧ 1 < l[k].toNat) ∨ (0 < k ∧ l[k].toNat = 0)) : readN l = none := by
  obtain ⟨h1, h2, h3, h4⟩ := h
  by_cases h9 : k ≤ 9
  · have h3 := h3 h9
    rw [List.drop_eq_getElem_cons hk, readK] at h3
    by_cases c : k = 9 ∧ 1 < l[k].toNat
    · rw [h3, if_pos c]
    · have c2 : 0 < k ∧ l[k].toNat = 0 := by omega
      rw [h3, if_neg c, if_pos (by omega), if_pos (by omega)]
  · exact h4 (by omega)
theorem take_bound {l : List UInt8} {k : Nat} (hk : k < l.length) (h10 : k < 10) (h9 : ¬ (k = 9 ∧ 1 < l[k].toNat)) : hiB (l.take (k + 1)) < 18446744073709551616 := by
  rw [hiB_take hk]
  have h1 := hiB_lt (l.take k)
  rw [List.length_take, Nat.min_eq_left (by omega), show (128 : Nat) = 2 ^ 7 by rfl, ← Nat.pow_mul] at h1
  by_cases e : k = 9
  · subst e
    have : l[9].toNat % 128 ≤ 1 := by omega
    have h2 := Nat.mul_le_mul_right (2 ^ (7 * 9)) this
    have h3 : (2 : Nat) ^ (7 * 9) + 1 * 2 ^ (7 * 9) = 18446744073709551616 := by decide
    omega
  · have hp : (2 : Nat) ^ (7 * k) ≤ 2 ^ 56 := Nat.pow_le_pow_right (by omega) (by omega)
    have : l[k].toNat % 128 ≤ 127 := by omega
    have h2 := Nat.mul_le_mul this hp
    have h3 : (2 : Nat) ^ 56 + 127 * 2 ^ 56 ≤ 18446744073709551616 := by decide
    omega
def hiD (l : List UInt8) (k m : Nat) : Nat := hiB ((l.take (k + 1)).drop m)
theorem hiD_step {l : List UInt8} {k j : Nat} (hk : k < l.length) (h : j < k + 1) : hiD l k j = hiD l k (j + 1) * 128 + l[j].toNat % 128 := by
  unfold hiD
  rw [List.drop_eq_getElem_cons (by rw [List.length_take]; omega), hiB_cons, List.getElem_take]
  omega
theorem hiD_le (l : List UInt8) (k m : Nat) : hiD l k m ≤ hiB (l.take (k + 1)) := hiB_drop _ _
theorem hiD_end {l : List UInt8} {k : Nat} (hk : k < l.length) : hiD l k (k + 1) = 0 := by
  unfold hiD
  rw [List.drop_eq_nil_of_le (by rw [List.length_take]; omega)]; rfl
theorem hiD_zero (l : List UInt8) (k : Nat) : hiD l k 0 = hiB (l.take (k + 1)) := by unfold hiD; rw [List.drop_zero]
theorem r3read_spec (l : List UInt8) : FnD Tryz.prog 98 [.sl 1 (bts l)] (readO (readN l)) := by
  have hpl := bts_pure l
  refine fnD_of mixed Tryz.func98 rfl rfl (by simp [Tryz.ntmps98]) fun hwf E => ?_
  simp (disch := omega) [go_sem, bts_len] at hwf
  simp (disch := omega) [Tryz.ntmps98, go_sem, bts_len]
  refine awz_loop mixed (fun k : Nat => ⟨[(5, .int .i64 k), (0, .sl 1 (bts l))], [], 1024, [], 71, 0, []⟩) (p9 l) (fun k => l.length - k) 0 ?_ ?_ ?_
  · exact ⟨by omega, by omega, fun _ => rfl, fun h => by omega⟩
  · refine Le.mk [] [] ⟨rfl, rfl, rfl⟩ ?_ ?_ ?_ <;> simp [go_sem, bts_len, hpl]
  · intro k hI
    have hI' := hI
    obtain ⟨h1, h2, _, _⟩ := hI'
    by_cases hk : k < l.length
    · have hnb := nth_bts hk
      have hx := l[k].toNat_lt
      have hst := p9_step hI hk
      have hbd := p9_bad hI hk
      have hen := p9_end hI
      rw [dif_pos hk] at hen
      have hto := take_bound hk
      have hm1 : l.length - (k + 1) < l.length - k := by omega
      have hx9 : k = 9 → ∀ h : 9 < l.length, l[9].toNat = l[k].toNat := by rintro rfl h; rfl
      generalize hX : l[k].toNat = x at *
      by_cases hc : k < 10 ∧ 128 ≤ x
      · obtain ⟨h10, hx8⟩ := hc
        have hcd : (decide ((k : Int) < 10) && decide (128 ≤ (x : Int))) = true := by
          rw [Bool.and_eq_true, decide_eq_true_eq, decide_eq_true_eq]; omega
        simp (disch := omega) [go_sem, bts_len, hk, hnb, hX, hcd]
        refine round_of (k + 1) (hst h10 hx8) (by omega) (Le.mk [] [] ⟨rfl, rfl, rfl⟩ ?_ ?_ ?_) <;> simp [go_sem, bts_len, hpl]
      · have hcc : (decide ((k : Int) < 10) && decide (128 ≤ (x : Int))) = false := by
          rw [Bool.and_eq_false_iff, decide_eq_false_iff_not, decide_eq_false_iff_not]; omega
        have fin : ∀ b : Prop, (k = 9 ∧ b ↔ k = 9 ∧ 1 < x) → ∀ e : Bool, (e = true ↔ ¬ k < 10 ∨ (k = 9 ∧ b) ∨ (0 < k ∧ x = 0)) → (e = true → readN l = none) ∧ (e = false → readN l = some (hiB (l.take (k + 1)), k + 1) ∧ hiB (l.take (k + 1)) < 18446744073709551616) := fun b hb e he => by
          rw [hb] at he
          refine ⟨fun h => hbd (he.1 h), fun h => ?_⟩
          have hn : ¬ (¬ k < 10 ∨ (k = 9 ∧ 1 < x) ∨ (0 < k ∧ x = 0)) := fun h' => by rw [he.2 h'] at h; cases h
          simp only [not_or, Decidable.not_not] at hn
          rw [if_pos ⟨hn.1, hn.2.1, hn.2.2, by have := hn.1; omega⟩] at hen
          exact ⟨hen, hto hn.1 hn.2.1⟩
        by_cases h9 : 9 < l.length
        · have e9 := nth_bts h9
          have f := fin (1 < l[9].toNat) (by constructor <;> rintro ⟨a, b⟩ <;> have := hx9 a h9 <;> omega)
          clear hbd hen hto fin hst
          simp (disch := omega) [go_sem, bts_len, hk, hnb, hX, hcc, e9]
          refine ⟨fun _ _ => by omega, fun _ _ => h9, fun a b => ⟨a, (Classical.em ((k : Int) = 9)).elim (fun e => .inr (b e)) .inl⟩, ?_⟩
          refine br_of (fun h => ?_) (fun h => ?_)
          · rw [(f _ (by simp; omega)).1 h]
            simp (disch := omega) [go_sem, bts_len, readO]
          · obtain ⟨hr, hlt⟩ := (f _ (by simp; omega)).2 h
            rw [hr]
            simp (disch := omega) [go_sem, bts_len, readO]
            refine awz_loop mixed (fun m : Nat => ⟨[(7, .int .i64 ((m : Int) - 1)), (6, .int .u64 (hiD l k m)), (5, .int .i64 k), (0, .sl 1 (bts l))], [], 2048, [], 71, 0, []⟩) (fun m => m ≤ k + 1) (fun m => m) (k + 1) ?_ ?_ ?_
            · omega
            · refine Le.mk [] [] ⟨rfl, rfl, rfl⟩ ?_ ?_ ?_ <;> simp [go_sem, bts_len, hpl, hiD_end, hk]
            · intro m hm
              cases m with
              | zero =>
                have hz := hiD_zero l k
                simp (disch := omega) [go_sem, bts_len, hz]
              | succ j =>
                have hj : j < l.length := by omega
                have hnj := nth_bts hj
                have hjx := l[j].toNat_lt
                have hle := hiD_le l k j
                have hst := hiD_step hk hm
                have t1 := natTmod l[j].toNat 128
                generalize l[j].toNat = y at *
                push_cast at t1
                have hw : IntKind.u64.wrap ((y : Int) % 128) = (y : Int) % 128 := u64_wrap (by omega) (by omega)
                simp (disch := omega) [go_sem, bts_len, hj, hnj, t1, hw]
                refine round_of j (by omega) (by omega) (Le.mk [] [] ⟨rfl, rfl, rfl⟩ ?_ ?_ ?_) <;> simp [go_sem, bts_len, hpl, hst]
        · have e9 := nth_none (bts l) 9 (by rw [bts_len]; omega)
          have c9 : ((k : Int) == 9) = false := by simp; omega
          have f := fin False (by constructor <;> rintro ⟨a, b⟩ <;> omega)
          clear hbd hen hto fin hst
          simp (disch := omega) [go_sem, bts_len, hk, hnb, hX, hcc, e9, partV, c9]
          refine br_of (fun h => ?_) (fun h => ?_)
          · rw [(f _ (by simp; omega)).1 h]
            simp (disch := omega) [go_sem, bts_len, readO]
          · obtain ⟨hr, hlt⟩ := (f _ (by simp; omega)).2 h
            rw [hr]
            simp (disch := omega) [go_sem, bts_len, readO]
            refine awz_loop mixed (fun m : Nat => ⟨[(7, .int .i64 ((m : Int) - 1)), (6, .int .u64 (hiD l k m)), (5, .int .i64 k), (0, .sl 1 (bts l))], [], 2048, [], 71, 0, []⟩) (fun m => m ≤ k + 1) (fun m => m) (k + 1) ?_ ?_ ?_
            · omega
            · refine Le.mk [] [] ⟨rfl, rfl, rfl⟩ ?_ ?_ ?_ <;> simp [go_sem, bts_len, hpl, hiD_end, hk]
            · intro m hm
              cases m with
              | zero =>
                have hz := hiD_zero l k
                simp (disch := omega) [go_sem, bts_len, hz]
              | succ j =>
                have hj : j < l.length := by omega
                have hnj := nth_bts hj
                have hjx := l[j].toNat_lt
                have hle := hiD_le l k j
                have hst := hiD_step hk hm
                have t1 := natTmod l[j].toNat 128
                generalize l[j].toNat = y at *
                push_cast at t1
                have hw : IntKind.u64.wrap ((y : Int) % 128) = (y : Int) % 128 := u64_wrap (by omega) (by omega)
                simp (disch := omega) [go_sem, bts_len, hj, hnj, t1, hw]
                refine round_of j (by omega) (by omega) (Le.mk [] [] ⟨rfl, rfl, rfl⟩ ?_ ?_ ?_) <;> simp [go_sem, bts_len, hpl, hst]
    · have hkl : k = l.length := by omega
      have hn := p9_end hI
      rw [dif_neg hk] at hn
      rw [hn]
      subst hkl
      have hob := nth_none (bts l) l.length (by rw [bts_len]; omega)
      have e9 : ∃ v, nth (bts l) 9 = v ∧ (v = .bot ∨ ∃ n, v = .int .u8 n) := by
        by_cases h9 : 9 < l.length
        · exact ⟨_, nth_bts h9, .inr ⟨_, rfl⟩⟩
        · exact ⟨_, nth_none (bts l) 9 (by rw [bts_len]; omega), .inl rfl⟩
      obtain ⟨v, e9, rfl | ⟨m, rfl⟩⟩ := e9
      · simp (disch := omega) [go_sem, bts_len, hob, partV, e9, readO]
      · simp (disch := omega) [go_sem, bts_len, hob, partV, e9, readO]
end Go.Proofs.YtdeionjkcmpnpaaGreatDoor
