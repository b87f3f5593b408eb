
/- The layer raw: numbers as bytes. -/
import Derived.Test.YtdeionjkcmpnpaaGreatDoorRingA
import Derived.Test.YtdeionjkcmpnpaaGreatDoorSiteA
set_option linter.unusedSimpArgs false
set_option linter.unusedVariables false
namespace Go.Proofs.YtdeionjkcmpnpaaGreatDoor
open Go.AM Go.RowKit
set_option maxRecDepth 100000

/-! bytes -/
def bts (l : List UInt8) : List V := l.map fun b => .int .u8 (b.toNat : Int)
theorem bts_len (l : List UInt8) : (bts l).length = l.length := by simp [bts]
theorem bts_app (a b : List UInt8) : bts (a ++ b) = bts a ++ bts b := by simp [bts]
theorem bts_pure (l : List UInt8) : pures (bts l) := pures_map _ (fun u => by simp [go_sem]) l
theorem nth_bts {l : List UInt8} {k : Nat} (h : k < l.length) : nth (bts l) k = .int .u8 (l[k].toNat : Int) := by rw [bts, nth_map h]
theorem bts_take (l : List UInt8) (k : Nat) : (bts l).take k = bts (l.take k) := by simp [bts]
theorem bts_drop (l : List UInt8) (k : Nat) : (bts l).drop k = bts (l.drop k) := by simp [bts]
theorem bytesV_bts : ∀ (l : List UInt8), bytesV (bts l) = some l
  | [] => rfl
  | b :: l => by
    have ih := bytesV_bts l
    unfold bts at ih ⊢
    simp only [List.map_cons, bytesV, ih, Option.map_some, Int.toNat_natCast, UInt8.ofNat_toNat]
theorem baList (l : List UInt8) : (⟨l.toArray⟩ : ByteArray).toList = l := by
  have key : ∀ (n i : Nat) (r : List UInt8), l.length - i = n → ByteArray.toList.loop ⟨l.toArray⟩ i r = r.reverse ++ l.drop i := by
    intro n
    induction n with
    | zero =>
      intro i r h
      unfold ByteArray.toList.loop
      have hs : ¬ i < (⟨l.toArray⟩ : ByteArray).size := by simp [ByteArray.size]; omega
      rw [if_neg hs, List.drop_of_length_le (by omega), List.append_nil]
    | succ n ih =>
      intro i r h
      unfold ByteArray.toList.loop
      have hi : i < l.length := by omega
      have hs : i < (⟨l.toArray⟩ : ByteArray).size := by simpa [ByteArray.size] using hi
      rw [if_pos hs, ih (i + 1) _ (by omega), List.drop_eq_getElem_cons hi]
      simp [ByteArray.get!, hi]
  have := key _ 0 [] rfl
  simpa [ByteArray.toList] using this

/-! bits -/
theorem w8 (m : Nat) : IntKind.u8.wrap (m : Int) = ((m % 256 : Nat) : Int) := by
  unfold IntKind.wrap
  simp [IntKind.bits, IntKind.signed]
theorem fdivR (t b : Nat) : (t : Int).fdiv (2 ^ b) = ((t / 2 ^ b : Nat) : Int) := by
  rw [show ((2 : Int) ^ b) = ((2 ^ b : Nat) : Int) by simp, Int.fdiv_eq_ediv_of_nonneg _ (Int.natCast_nonneg _)]
  exact (Int.natCast_ediv _ _).symm
theorem w64 {m : Nat} (h : m < 18446744073709551616) : IntKind.u64.wrap (m : Int) = (m : Int) := IntWalk.u64_in _ ⟨by omega, by omega⟩
theorem bits8 (n : Nat) (hn : n < 256) : bitsV .or .u8 (n : Int) 128 = some (.int .u8 ((n % 128 + 128 : Nat) : Int)) := by
  unfold bitsV
  show some (V.int .u8 (IntKind.u8.wrap (((BitVec.ofInt 8 (n : Int) ||| BitVec.ofInt 8 128).toNat : Nat) : Int))) = _
  have e : (BitVec.ofInt 8 (n : Int) ||| BitVec.ofInt 8 128).toNat = n % 128 + 128 := by
    rw [BitVec.ofInt_natCast]
    have : ∀ m, m < 256 → (BitVec.ofNat 8 m ||| BitVec.ofInt 8 128).toNat = m % 128 + 128 := by decide +kernel
    exact this n hn
  rw [e, w8]
  congr 3
  omega
theorem bits8and (n : Nat) (hn : n < 256) : bitsV .and .u8 (n : Int) 127 = some (.int .u8 ((n % 128 : Nat) : Int)) := by
  unfold bitsV
  show some (V.int .u8 (IntKind.u8.wrap (((BitVec.ofInt 8 (n : Int) &&& BitVec.ofInt 8 127).toNat : Nat) : Int))) = _
  have e : (BitVec.ofInt 8 (n : Int) &&& BitVec.ofInt 8 127).toNat = n % 128 := by
    rw [BitVec.ofInt_natCast]
    have : ∀ m, m < 256 → (BitVec.ofNat 8 m &&& BitVec.ofInt 8 127).toNat = m % 128 := by decide +kernel
    exact this n hn
  rw [e, w8]
  congr 3
  omega
theorem bits64or {a b : Nat} (ha : a < 18446744073709551616) (hb : b < 18446744073709551616) : bitsV .or .u64 (a : Int) (b : Int) = some (.int .u64 ((a ||| b : Nat) : Int)) := by
  unfold bitsV
  show some (V.int .u64 (IntKind.u64.wrap (((BitVec.ofInt 64 (a : Int) ||| BitVec.ofInt 64 (b : Int)).toNat : Nat) : Int))) = _
  rw [BitVec.ofInt_natCast, BitVec.ofInt_natCast, BitVec.toNat_or, BitVec.toNat_ofNat, BitVec.toNat_ofNat, Nat.mod_eq_of_lt ha, Nat.mod_eq_of_lt hb, w64 (Nat.or_lt_two_pow (n := 64) ha hb)]
theorem bits32xor {a b : Nat} (ha : a < 4294967296) (hb : b < 4294967296) : bitsV .xor .u32 (a : Int) (b : Int) = some (.int .u32 ((a ^^^ b : Nat) : Int)) := by
  unfold bitsV
  show some (V.int .u32 (IntKind.u32.wrap (((BitVec.ofInt 32 (a : Int) ^^^ BitVec.ofInt 32 (b : Int)).toNat : Nat) : Int))) = _
  have h := Nat.xor_lt_two_pow (n := 32) ha hb
  rw [BitVec.ofInt_natCast, BitVec.ofInt_natCast, BitVec.toNat_xor, BitVec.toNat_ofNat, BitVec.toNat_ofNat, Nat.mod_eq_of_lt ha, Nat.mod_eq_of_lt hb, IntWalk.u32_in _ ⟨by omega, by omega⟩]
theorem or_add {a x k : Nat} (h : a < 2 ^ k) : a ||| (x * 2 ^ k) = a + x * 2 ^ k := by
  rw [Nat.or_comm, Nat.mul_comm, ← Nat.two_pow_add_eq_or_of_lt h, Nat.add_comm]

/-! Small -/
def smallF : Nat → Nat → List UInt8
  | 0, n => [UInt8.ofNat n]
  | f + 1, n => if n ≤ 127 then [UInt8.ofNat n] else UInt8.ofNat (n % 128 + 128) :: smallF f (n / 128)
/-- A number in one to ten bytes. -/
def small (n : Nat) : List UInt8 := smallF 10 n
theorem smallF_end {f n : Nat} (h : n ≤ 127) : smallF f n = [UInt8.ofNat n] := by cases f <;> simp [smallF, h]
theorem smallF_len : ∀ f n, 1 ≤ (smallF f n).length ∧ (smallF f n).length ≤ f + 1
  | 0, n => by simp [smallF]
  | f + 1, n => by
    unfold smallF
    have := smallF_len f (n / 128)
    split
    · simp
    · simp; omega
def smF (p : List UInt8 × Nat × Nat) : St := match p.1 with
  | [] => ⟨[(3, .nilS), (0, .int .u64 p.2.1)], [], 1024, [], 19, 0, []⟩
  | b :: r => ⟨[(3, .obj 1008 (r.length + 1)), (0, .int .u64 p.2.1)], [(1008, ⟨.arr, 5, 1, bts (b :: r)⟩)], 1024, [], 19, 0, []⟩
def smI (n : Nat) (p : List UInt8 × Nat × Nat) : Prop := p.1 ++ smallF p.2.2 p.2.1 = small n ∧ p.2.1 < 18446744073709551616 ∧ p.2.1 < 128 ^ (p.2.2 + 1) ∧ p.1.length + p.2.2 = 10
theorem small_spec (n : Nat) (hn : n < 18446744073709551616) : FnD Tryz.prog 80 [.int .u64 n] (.sl 1 (bts (small n))) := by
  refine fnD_of mixed Tryz.func80 rfl rfl (by simp [Tryz.ntmps80]) fun hwf E => ?_
  clear hwf
  simp (disch := omega) [Tryz.ntmps80, go_sem]
  refine awz_loop mixed smF (smI n) (fun p : List UInt8 × Nat × Nat => p.2.2) ([], n, 10) ⟨rfl, hn, by simp only; omega, rfl⟩ ?_ ?_
  · refine Le.mk [] [] ⟨rfl, rfl, rfl⟩ ?_ ?_ ?_ <;> simp [go_sem, smF]
  · rintro ⟨pre, m, f⟩ ⟨h1, h2, h3, h4⟩
    simp only at h1 h2 h3 h4
    have hm256 : m % 256 < 256 := Nat.mod_lt _ (by omega)
    have hmm : m % 256 % 128 = m % 128 := by omega
    have e8 : bitsV .or .u8 ((m : Int) % 256) 128 = some (.int .u8 ((m : Int) % 128 + 128)) := by
      have := bits8 (m % 256) hm256
      rw [hmm] at this
      push_cast at this
      exact this
    have hby : (UInt8.ofNat (m % 128 + 128)).toNat = m % 128 + 128 := by rw [UInt8.toNat_ofNat']; omega
    have hby2 : (UInt8.ofNat m).toNat = m % 256 := UInt8.toNat_ofNat' ..
    have hdiv : ((m : Int)).fdiv 128 = (m : Int) / 128 := by
      have := fdivR m 7
      push_cast at this
      exact this
    have key : 127 < m → ∃ g, f = g + 1 ∧ smI n (pre ++ [UInt8.ofNat (m % 128 + 128)], m / 128, g) := fun hm => by
      cases f with
      | zero => simp at h3; omega
      | succ g =>
        refine ⟨g, rfl, ?_, by simp only; omega, ?_, by simp; omega⟩
        · rw [← h1, List.append_assoc]
          congr 1
          show UInt8.ofNat (m % 128 + 128) :: smallF g (m / 128) = smallF (g + 1) m
          rw [smallF, if_neg (by omega)]
        · simp only
          rw [Nat.pow_succ] at h3
          exact Nat.div_lt_of_lt_mul (by rw [Nat.mul_comm]; exact h3)
    cases pre with
    | nil =>
      simp (disch := omega) [go_sem, smF]
      refine br_of (fun h => ?_) (fun h => ?_) <;> simp at h
      · obtain ⟨g, rfl, hI⟩ := key (by omega)
        simp (disch := omega) [go_sem, w8, e8]
        refine round_of ([] ++ [UInt8.ofNat (m % 128 + 128)], m / 128, g) hI (by show g < g + 1; omega) (Le.mk [(1008, some 1136)] [1136] ⟨rfl, rfl, rfl⟩ ?_ ?_ ?_) <;> simp [go_sem, smF, bts, hby, hdiv, -UInt8.ofNat_add, -UInt8.toNat_add]
      · have hs : small n = [UInt8.ofNat m] := by rw [← h1, smallF_end (by omega), List.nil_append]
        simp (disch := omega) [go_sem, w8]
        rw [hs]
        simp [go_sem, bts, hby2]
    | cons b r =>
      have hl : r.length ≤ 10 := by simp at h4; omega
      have hpb := bts_pure (b :: r)
      have hbl := bts_len (b :: r)
      simp only [List.length_cons] at hbl
      simp (disch := omega) [go_sem, smF]
      refine br_of (fun h => ?_) (fun h => ?_) <;> simp at h
      · obtain ⟨g, rfl, hI⟩ := key (by omega)
        simp (disch := omega) [go_sem, w8, e8, hbl]
        have hba : bts (b :: r ++ [UInt8.ofNat (m % 128 + 128)]) = bts (b :: r) ++ [.int .u8 ((m : Int) % 128 + 128)] := by
          rw [bts_app]
          congr 1
          show [V.int .u8 ((UInt8.ofNat (m % 128 + 128)).toNat : Int)] = _
          rw [hby]; push_cast; rfl
        have hbq := hba
        simp only [List.cons_append] at hbq
        refine ⟨by simp at h4; omega, ?_⟩
        refine round_of (b :: (r ++ [UInt8.ofNat (m % 128 + 128)]), m / 128, g) hI (by show g < g + 1; omega) (Le.mk [(1008, some 1008)] [1008] ⟨rfl, rfl, rfl⟩ ?_ ?_ ?_) <;> simp [go_sem, smF, hdiv, hbq, hpb, -UInt8.ofNat_add]
      · have hs : small n = b :: r ++ [UInt8.ofNat m] := by rw [← h1, smallF_end (by omega)]
        have hba : bts (b :: r ++ [UInt8.ofNat m]) = bts (b :: r) ++ [.int .u8 ((m % 256 : Nat) : Int)] := by rw [bts_app]; simp [bts, hby2]
        simp (disch := omega) [go_sem, w8, hbl]
        rw [hs, hba]
        refine ⟨by omega, ?_⟩
        simp only [Int.natCast_emod, Int.cast_ofNat_Int]
        exact all2_append (argsLe_self hpb) (by simp [go_sem])

/-! Read -/
def readK : Nat → Nat → List UInt8 → Option (Nat × Nat)
  | _, _, [] => none
  | i, n, x :: r => if i = 9 ∧ 1 < x.toNat then none else if x.toNat < 128 then (if x.toNat = 0 ∧ 0 < i then none else some (n + x.toNat % 128 * 2 ^ (7 * i), i + 1)) else readK (i + 1) (n + x.toNat % 128 * 2 ^ (7 * i)) r
/-- A number that stands first in bytes: it, and how many bytes it has. -/
def readN (l : List UInt8) : Option (Nat × Nat) := readK 0 0 l
def readO : Option (Nat × Nat) → V
  | some (n, k) => .tup [.int .u64 n, .int .i64 k, .int .i64 0]
  | none => .tup [.int .u64 0, .int .i64 0, .int .i64 8]
theorem rawRead_spec (l : List UInt8) : FnD Tryz.prog 158 [.sl 1 (bts l)] (readO (readN l)) := by
  have hpl := bts_pure l
  refine fnD_of mixed Tryz.func158 rfl rfl (by simp [Tryz.ntmps158]) fun hwf E => ?_
  simp (disch := omega) [go_sem, bts_len] at hwf
  simp (disch := omega) [Tryz.ntmps158, go_sem, bts_len]
  refine awz_loop mixed (fun p : Nat × Nat => ⟨[(10, .int .i64 p.1), (9, .int .i64 l.length), (8, .sl 1 (bts l)), (5, .int .u64 p.2)], [], 1024, [], 41, 0, []⟩)
    (fun p => p.1 ≤ l.length ∧ p.2 < 2 ^ (7 * p.1) ∧ p.1 ≤ 9 ∧ readN l = readK p.1 p.2 (l.drop p.1)) (fun p => l.length - p.1) (0, 0) ⟨by simp, by simp, by simp, rfl⟩ ?_ ?_
  · refine Le.mk [] [] ⟨rfl, rfl, rfl⟩ ?_ ?_ ?_ <;> simp [go_sem, hpl, bts_len]
  · rintro ⟨i, n⟩ ⟨h1, h2, h3, h4⟩
    simp only at h1 h2 h3 h4
    simp (disch := omega) [go_sem]
    refine br_of (fun h => ?_) (fun h => ?_) <;> simp at h
    · have hx := l[i].toNat_lt
      rw [List.drop_eq_getElem_cons h, readK] at h4
      have hp64 : (2 : Nat) ^ (7 * i) ≤ 2 ^ 63 := Nat.pow_le_pow_right (by omega) (by omega)
      have e7 : bitsV .and .u8 (l[i].toNat : Int) 127 = some (.int .u8 ((l[i].toNat : Int) % 128)) := by
        have := bits8and l[i].toNat hx
        push_cast at this
        exact this
      have ht7 : (7 * (i : Int)).toNat = 7 * i := by omega
      have hxm : l[i].toNat % 128 < 128 := Nat.mod_lt _ (by omega)
      have hnx : l[i].toNat % 128 * 2 ^ (7 * i) < 18446744073709551616 ∨ (i = 9 ∧ 1 < l[i].toNat) := by
        by_cases hi : i = 9
        · subst hi
          by_cases h9 : 1 < l[9].toNat
          · exact .inr ⟨rfl, h9⟩
          · left
            have : l[9].toNat % 128 ≤ 1 := by omega
            calc l[9].toNat % 128 * 2 ^ (7 * 9) ≤ 1 * 2 ^ (7 * 9) := Nat.mul_le_mul_right _ this
              _ < _ := by decide
        · left
          have hp : (2 : Nat) ^ (7 * i) ≤ 2 ^ 56 := Nat.pow_le_pow_right (by omega) (by omega)
          calc l[i].toNat % 128 * 2 ^ (7 * i) ≤ 127 * 2 ^ 56 := Nat.mul_le_mul (by omega) hp
            _ < _ := by decide
      have hor := or_add (x := l[i].toNat % 128) h2
      generalize hX : l[i].toNat = x at *
      simp (disch := omega) [go_sem, bts_len, nth_bts, h, hX]
      refine br_of (fun h5 => ?_) (fun h5 => ?_) <;> simp at h5
      · rw [if_pos (by omega)] at h4
        rw [h4]
        simp (disch := omega) [go_sem, readO]
      · have h9 : ¬ (i = 9 ∧ 1 < x) := fun e => by have := h5 (by omega); omega
        rw [if_neg h9] at h4
        have hnx := hnx.resolve_right h9
        have hmin : min (7 * i) 64 = 7 * i := by omega
        have hb64 := bits64or (a := n) (b := x % 128 * 2 ^ (7 * i)) (by omega) hnx
        rw [hor] at hb64
        have hw := w64 hnx
        push_cast at hb64 hw
        have hn2 : n + x % 128 * 2 ^ (7 * i) < 2 ^ (7 * (i + 1)) := by
          have : (2 : Nat) ^ (7 * (i + 1)) = 128 * 2 ^ (7 * i) := by rw [show 7 * (i + 1) = 7 * i + 7 by omega, Nat.pow_add]; omega
          rw [this]
          have := Nat.mul_le_mul_right (2 ^ (7 * i)) (show x % 128 ≤ 127 by omega)
          omega
        simp (disch := omega) [go_sem, e7, ht7, hw, hb64, hmin]
        refine ⟨by omega, ?_⟩
        refine br_of (fun h6 => ?_) (fun h6 => ?_) <;> simp at h6
        · rw [if_pos (by omega)] at h4
          simp (disch := omega) [go_sem]
          refine br_of (fun h7 => ?_) (fun h7 => ?_) <;> simp at h7
          · rw [if_pos (by omega)] at h4
            rw [h4]
            simp (disch := omega) [go_sem, readO]
          · rw [if_neg (by omega)] at h4
            rw [h4]
            simp (disch := omega) [go_sem, readO]
        · rw [if_neg (by omega)] at h4
          simp (disch := omega) [go_sem]
          refine round_of (i + 1, n + x % 128 * 2 ^ (7 * i)) ⟨by simp only; omega, hn2, ?_, h4⟩ (by simp only; omega) (Le.mk [] [] ⟨rfl, rfl, rfl⟩ ?_ ?_ ?_)
          · simp only
            by_cases hi9 : i = 9
            · exact absurd ⟨hi9, by omega⟩ h9
            · omega
          all_goals simp [go_sem, hpl]
    · have hil : i = l.length := by omega
      subst hil
      rw [List.drop_length, readK] at h4
      rw [h4]
      simp (disch := omega) [go_sem, readO]

/-! Put, of four bytes -/
def putB (n k : Nat) : List UInt8 := (List.range 4).map fun i => if i < k then UInt8.ofNat (n / 2 ^ (8 * i)) else 0
theorem putB_len (n k : Nat) : (putB n k).length = 4 := by simp [putB]
theorem putB_set {n k : Nat} (h : k < 4) : (putB n k).set k (UInt8.ofNat (n / 2 ^ (8 * k))) = putB n (k + 1) := by
  unfold putB
  have : k = 0 ∨ k = 1 ∨ k = 2 ∨ k = 3 := by omega
  rcases this with rfl | rfl | rfl | rfl <;> rfl
/-- A number in four bytes. -/
def put4 (n : Nat) : List UInt8 := putB n 4
theorem put_spec (n : Nat) (hn : n < 4294967296) : FnD Tryz.prog 85 [.int .u64 n, .int .i64 4] (.tup [.sl 1 (bts (put4 n)), .int .i64 0]) := by
  have hsh : ((n : Int)).fdiv (2 ^ 32) = 0 := (shr_zero n 32).2 (by omega)
  refine fnD_of mixed Tryz.func85 rfl rfl (by simp [Tryz.ntmps85]) fun hwf E => ?_
  clear hwf
  simp at hsh
  simp (disch := omega) [Tryz.ntmps85, go_sem, hsh]
  refine awz_loop mixed (fun k : Nat => ⟨[(29, .int .i64 k), (28, .int .i64 4), (6, .obj 320 4), (0, .int .u64 n)], [(320, ⟨.arr, 5, 1, bts (putB n k)⟩)], 1024, [], 42, 0, []⟩)
    (fun k => k ≤ 4) (fun k => 4 - k) 0 (by omega) ?_ ?_
  · refine Le.mk [(320, some 320)] [320] ⟨rfl, rfl, rfl⟩ ?_ ?_ ?_ <;> simp [go_sem, putB, bts, List.range_succ]
  · intro k hk
    simp (disch := omega) [go_sem]
    refine br_of (fun h => ?_) (fun h => ?_) <;> simp at h
    · have h' : k < 4 := by omega
      have hset := putB_set (n := n) h'
      have hfd := fdivR n (8 * k)
      have hby : (UInt8.ofNat (n / 2 ^ (8 * k))).toNat = n / 2 ^ (8 * k) % 256 := UInt8.toNat_ofNat' ..
      have hsb : (bts (putB n k)).set k (.int .u8 ((n / 2 ^ (8 * k) % 256 : Nat) : Int)) = bts (putB n (k + 1)) := by
        rw [← hset, ← hby]
        simp [bts, List.map_set]
      have hnb := nth_bts (l := putB n k) (k := k) (by rw [putB_len]; exact h')
      have h8k : (8 * (k : Int)).toNat = 8 * k := by omega
      have hmin : min (8 * k) 64 = 8 * k := by omega
      have hw := w8 (n / 2 ^ (8 * k))
      push_cast at hfd hw hsb
      simp (disch := omega) [go_sem, bts_len, putB_len, hnb, h8k, hmin, hfd, hw]
      refine ⟨by omega, by omega, h', ?_⟩
      refine round_of (k + 1) (by omega) (by omega) (Le.mk [(320, some 320)] [320] ⟨rfl, rfl, rfl⟩ ?_ ?_ ?_) <;> simp [go_sem, hsb, bts_pure]
    · have hk4 : k = 4 := by omega
      subst hk4
      have hp := bts_pure (putB n 4)
      simp (disch := omega) [go_sem, bts_len, putB_len]
      exact argsLe_self hp

/-! Sum -/
def crcT : List Nat := [0, 498536548, 997073096, 651767980, 1994146192, 1802195444, 1303535960, 1342533948, 3988292384, 4027552580, 3604390888, 3412177804, 2607071920, 2262029012, 2685067896, 3183342108]
def tbl (i : Nat) : Nat := crcT.getD i 0
def crcH (r x : Nat) : Nat := (r / 16) ^^^ tbl ((r ^^^ x) &&& 15)
def crcS (r : Nat) (x : UInt8) : Nat := crcH (crcH r x.toNat) (x.toNat / 16)
def crcK (l : List UInt8) (k : Nat) : Nat := (l.take k).foldl crcS 4294967295
def crc (l : List UInt8) : Nat := 4294967295 ^^^ crcK l l.length
def sumB (l : List UInt8) : List UInt8 := put4 (crc l)
theorem crcT_lt (i : Nat) : tbl i < 4294967296 := by
  unfold tbl
  by_cases h : i < 16
  · have : ∀ i, i < 16 → crcT.getD i 0 < 4294967296 := by decide
    exact this i h
  · rw [List.getD_eq_getElem?_getD, List.getElem?_eq_none (by simp [crcT]; omega)]
    decide
theorem crcH_lt {r x : Nat} (h : r < 4294967296) : crcH r x < 4294967296 := Nat.xor_lt_two_pow (n := 32) (by omega) (crcT_lt _)
theorem crcK_lt (l : List UInt8) (k : Nat) : crcK l k < 4294967296 := by
  unfold crcK
  generalize l.take k = m
  have : ∀ (m : List UInt8) (r : Nat), r < 4294967296 → m.foldl crcS r < 4294967296 := by
    intro m
    induction m with
    | nil => intro r h; exact h
    | cons x m ih => intro r h; exact ih _ (crcH_lt (crcH_lt h))
  exact this m _ (by decide)
theorem crc_lt (l : List UInt8) : crc l < 4294967296 := Nat.xor_lt_two_pow (n := 32) (by decide) (crcK_lt l l.length)
theorem crcK_succ {l : List UInt8} {k : Nat} (h : k < l.length) : crcK l (k + 1) = crcS (crcK l k) l[k] := by
  unfold crcK
  rw [List.take_succ_eq_append_getElem h, List.foldl_append]
  rfl
def crcV : List V := crcT.map fun (c : Nat) => .int .u32 (c : Int)
theorem crcV_at (i : Nat) (h : i < 16) : crcV[i]? = some (.int .u32 (tbl i : Int)) := by
  have : i < crcT.length := h
  unfold crcV tbl
  rw [List.getElem?_map, List.getElem?_eq_getElem this, List.getD_eq_getElem?_getD, List.getElem?_eq_getElem this]
  rfl
theorem crcV_get (i : Nat) (h : i < crcV.length) : crcV[i] = .int .u32 (tbl i : Int) := by
  have := crcV_at i h
  rw [List.getElem?_eq_getElem h] at this
  exact Option.some.inj this
theorem and15 (a : Nat) : a &&& 15 < 16 := Nat.lt_of_le_of_lt Nat.and_le_right (by decide)
set_option maxHeartbeats 2000000 in
theorem rawSum_spec (l : List UInt8) : FnD Tryz.prog 86 [.sl 1 (bts l)] (.int .u32 (crc l)) := by
  have hp := bts_pure l
  have hcp : pures crcV := pures_map _ (fun u => by simp [go_sem]) crcT
  have hcl : crcV.length = 16 := rfl
  refine fnD_of mixed Tryz.func86 rfl rfl (by simp [Tryz.ntmps86]) fun hwf E => ?_
  simp (disch := omega) [go_sem, bts_len] at hwf
  simp (disch := omega) [Tryz.ntmps86, go_sem, bts_len]
  refine awz_loop mixed (fun k : Nat => ⟨[(10, .int .i64 k), (9, .int .i64 l.length), (8, .sl 1 (bts l)), (4, .int .u32 (crcK l k)), (3, .ptr 32 1 0 0)], [(32, ⟨.box, 213, 16, [.agg crcV]⟩)], 1024, [], 38, 0, []⟩)
    (fun k => k ≤ l.length) (fun k => l.length - k) 0 (by omega) ?_ ?_
  · refine Le.mk [(32, some 32)] [32] ⟨rfl, rfl, rfl⟩ ?_ ?_ ?_ <;> simp [go_sem, crcV, crcT, hp, bts_len, crcK]
  · intro k hk
    have hr := crcK_lt l k
    simp (disch := omega) [go_sem]
    refine br_of (fun h => ?_) (fun h => ?_) <;> simp at h
    · have hx := l[k].toNat_lt
      have hs := crcK_succ h
      generalize crcK l k = r at *
      generalize hX : l[k].toNat = x at *
      have hxw : IntKind.u32.wrap (x : Int) = (x : Int) := u32_wrap (by omega) (by omega)
      have e1 := bits32xor (a := r) (b := x) hr (by omega)
      have a1 := and15 (r ^^^ x)
      have hrx : r ^^^ x < 4294967296 := Nat.xor_lt_two_pow (n := 32) hr (by omega)
      have e2 : bitsV .and .u32 ((r ^^^ x : Nat) : Int) 15 = some (.int .u32 (((r ^^^ x) &&& 15 : Nat) : Int)) := bits_and (a := r ^^^ x) (b := 15) hrx (by omega)
      have a2 : (((r ^^^ x) &&& 15 : Nat) : Int) < 16 := by omega
      have hc1 := crcV_at _ a1
      have hf : (r : Int).fdiv 16 = (r : Int) / 16 := by
        have := fdivR r 4
        push_cast at this
        exact this
      have e3 : bitsV .xor .u32 ((r : Int) / 16) (tbl ((r ^^^ x) &&& 15) : Int) = some (.int .u32 ((crcH r x : Nat) : Int)) := by
        have := bits32xor (a := r / 16) (b := tbl ((r ^^^ x) &&& 15)) (by omega) (crcT_lt _)
        push_cast at this
        exact this
      have hr1 : crcH r x < 4294967296 := crcH_lt hr
      have hs1 : crcK l (k + 1) = crcH (crcH r x) (x / 16) := by rw [hs]; unfold crcS; rw [hX]
      generalize crcH r x = r1 at *
      have hx16 : (x : Int).fdiv 16 = (x : Int) / 16 := by
        have := fdivR x 4
        push_cast at this
        exact this
      have hxw2 : IntKind.u32.wrap ((x : Int) / 16) = (x : Int) / 16 := u32_wrap (by omega) (by omega)
      have f1 : bitsV .xor .u32 (r1 : Int) ((x : Int) / 16) = some (.int .u32 ((r1 ^^^ (x / 16) : Nat) : Int)) := by
        have := bits32xor (a := r1) (b := x / 16) hr1 (by omega)
        push_cast at this
        exact this
      have hrx2 : r1 ^^^ (x / 16) < 4294967296 := Nat.xor_lt_two_pow (n := 32) hr1 (by omega)
      have f2 : bitsV .and .u32 ((r1 ^^^ (x / 16) : Nat) : Int) 15 = some (.int .u32 (((r1 ^^^ (x / 16)) &&& 15 : Nat) : Int)) := bits_and (a := r1 ^^^ (x / 16)) (b := 15) hrx2 (by omega)
      have b1 := and15 (r1 ^^^ (x / 16))
      have b2 : (((r1 ^^^ (x / 16)) &&& 15 : Nat) : Int) < 16 := by omega
      have hc2 := crcV_at _ b1
      have hf2 : (r1 : Int).fdiv 16 = (r1 : Int) / 16 := by
        have := fdivR r1 4
        push_cast at this
        exact this
      have f3 : bitsV .xor .u32 ((r1 : Int) / 16) (tbl ((r1 ^^^ (x / 16)) &&& 15) : Int) = some (.int .u32 ((crcH r1 (x / 16) : Nat) : Int)) := by
        have := bits32xor (a := r1 / 16) (b := tbl ((r1 ^^^ (x / 16)) &&& 15)) (by omega) (crcT_lt _)
        push_cast at this
        exact this
      simp (disch := omega) [go_sem, bts_len, nth_bts, h, hX, hxw, e1, e2, a2, hc1, hcl, hf, e3, crcV_get]
      simp (disch := omega) [go_sem, hx16, hxw2, f1, f2, b2, hc2, hcl, hf2, f3, crcV_get]
      refine round_of (k + 1) (by omega) (by omega) (Le.mk [(32, some 32)] [32] ⟨rfl, rfl, rfl⟩ ?_ ?_ ?_) <;> simp [go_sem, hs1, hcp, hp, bts_len]
    · have hkl : k = l.length := by omega
      subst hkl
      have e1 : bitsV .xor .u32 4294967295 (crcK l l.length : Int) = some (.int .u32 ((4294967295 ^^^ crcK l l.length : Nat) : Int)) := bits32xor (a := 4294967295) (b := crcK l l.length) (by omega) hr
      have hsg : IntKind.u32.signed = false := rfl
      simp (disch := omega) [go_sem, hsg, e1]
      rfl
end Go.Proofs.YtdeionjkcmpnpaaGreatDoor
