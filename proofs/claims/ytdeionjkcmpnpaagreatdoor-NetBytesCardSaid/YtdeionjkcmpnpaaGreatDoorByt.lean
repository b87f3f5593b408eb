
/- Bytes of the layer site: puts, sums. -/
import Derived.Test.YtdeionjkcmpnpaaGreatDoorRaw
import Derived.Test.YtdeionjkcmpnpaaGreatDoorAmMore
set_option linter.unusedSimpArgs false
set_option linter.unusedVariables false
namespace Go.Proofs.YtdeionjkcmpnpaaGreatDoor
open Go.AM Go.RowKit
set_option maxRecDepth 100000

theorem equal_spec (a b : List UInt8) : FnD Tryz.prog 45 [.sl 1 (bts a), .sl 1 (bts b)] (.bool (a == b)) := by
  refine fnD_of mixed Tryz.func45 rfl rfl (by simp [Tryz.ntmps45]) fun hwf E => ?_
  simp (disch := omega) [Tryz.ntmps45, go_sem, bytesV_bts, strV, baList]
theorem sum_spec (l : List UInt8) : FnD Tryz.prog 84 [.sl 1 (bts l)] (.sl 1 (bts (sumB l))) := by
  have q1 := rawSum_spec l
  have q2 := put_spec (crc l) (crc_lt l)
  have hp := bts_pure l
  have hp2 := bts_pure (put4 (crc l))
  refine fnD_of mixed Tryz.func84 rfl rfl (by simp [Tryz.ntmps84]) fun hwf E => ?_
  simp (disch := omega) [Tryz.ntmps84, go_sem]
  refine callK_data q1 [] (by simp [go_sem, hp]) (.inl rfl) (by simp [go_sem]) (fun _ => ?_)
  simp (disch := omega) [go_sem, w64 (show crc l < 18446744073709551616 by have := crc_lt l; omega)]
  refine callK_data q2 [] (by simp [go_sem]) (.inl rfl) (by simp [go_sem, hp2]) (fun _ => ?_)
  simp (disch := omega) [go_sem, hp2, sumB]

theorem put_ref (n : Nat) (hn : n < 4294967296) : FnR Tryz.prog 85 [] [.int .u64 n, .int .i64 4] [⟨.arr, 5, 1, bts (put4 n)⟩] (.tup [.obj 0 4, .int .i64 0]) := by
  have hsh : ((n : Int)).fdiv (2 ^ 32) = 0 := (shr_zero n 32).2 (by omega)
  refine fnR_of mixed Tryz.func85 rfl rfl (by simp [Tryz.ntmps85]) (by simp) fun hwf E => ?_
  clear hwf
  simp at hsh
  simp (disch := omega) [Tryz.ntmps85, go_sem, hsh]
  refine awz_loop mixed (fun k : Nat => ⟨[(29, .int .i64 k), (28, .int .i64 4), (6, .obj 336 4), (0, .int .u64 n)], [(336, ⟨.arr, 5, 1, bts (putB n k)⟩)], 1024, [], 42, 0, []⟩)
    (fun k => k ≤ 4) (fun k => 4 - k) 0 (by omega) ?_ ?_
  · refine Le.mk [(336, some 336)] [336] ⟨rfl, rfl, rfl⟩ ?_ ?_ ?_ <;> simp [go_sem, putB, bts, List.range_succ]
  · intro k hk
    simp (disch := omega) [go_sem]
    refine br_of (fun h => ?_) (fun h => ?_) <;> simp at h
    · have h' : k < 4 := by omega
      have hset := putB_set (n := n) h'
      have hfd := fdivR n (8 * k)
      have hby : (UInt8.ofNat (n / 2 ^ (8 * k))).toNat = n / 2 ^ (8 * k) % 256 := UInt8.toNat_ofNat' ..
      have hsb : (bts (putB n k)).set k (.int .u8 ((n / 2 ^ (8 * k) % 256 : Nat) : Int)) = bts (putB n (k + 1)) := by
        rw [← hset, ← hby]
        simp [bts, List.map_set]
      have hnb := nth_bts (l := putB n k) (k := k) (by rw [putB_len]; exact h')
      have h8k : (8 * (k : Int)).toNat = 8 * k := by omega
      have hmin : min (8 * k) 64 = 8 * k := by omega
      have hw := w8 (n / 2 ^ (8 * k))
      push_cast at hfd hw hsb
      simp (disch := omega) [go_sem, bts_len, putB_len, hnb, h8k, hmin, hfd, hw]
      refine ⟨by omega, by omega, h', ?_⟩
      refine round_of (k + 1) (by omega) (by omega) (Le.mk [(336, some 336)] [336] ⟨rfl, rfl, rfl⟩ ?_ ?_ ?_) <;> simp [go_sem, hsb, bts_pure]
    · have hk4 : k = 4 := by omega
      subst hk4
      have hp := bts_pure (putB n 4)
      simp (disch := omega) [go_sem, bts_len, putB_len]
      refine Le.mk [(0, some 336)] [336] ⟨rfl, rfl, rfl⟩ ?_ ?_ ?_ <;> simp [go_sem, put4, hp]

theorem sum_ref (l : List UInt8) : FnR Tryz.prog 84 [] [.sl 1 (bts l)] [⟨.arr, 5, 1, bts (sumB l)⟩] (.obj 0 4) := by
  have q1 := rawSum_spec l
  have q2 := put_ref (crc l) (crc_lt l)
  have hp := bts_pure l
  have hp2 := bts_pure (put4 (crc l))
  refine fnR_of mixed Tryz.func84 rfl rfl (by simp [Tryz.ntmps84]) (by simp) fun hwf E => ?_
  simp (disch := omega) [Tryz.ntmps84, go_sem]
  refine callK_data q1 [] (by simp [go_sem, hp]) (.inl rfl) (by simp [go_sem]) (fun _ => ?_)
  simp (disch := omega) [go_sem, w64 (show crc l < 18446744073709551616 by have := crc_lt l; omega)]
  refine callK_ref q2 [] [] [] [] ?_ ?_ ?_ (.inl ⟨rfl, .inl rfl⟩) (fun _ => ?_)
  · simp [go_sem]
  · simp [go_sem]
  · simp [go_sem]
  simp (disch := omega) [go_sem, sumB]
  refine Le.mk [(0, some 80)] [80] ⟨rfl, rfl, rfl⟩ ?_ ?_ ?_ <;> simp [go_sem, hp2]

/-! put: numbers behind bytes -/
def putN (l : List Int) : List UInt8 := (l.map fun x => small x.toNat).flatten
theorem putN_app (a b : List Int) : putN (a ++ b) = putN a ++ putN b := by simp [putN]
theorem putN_len (l : List Int) : (putN l).length ≤ 11 * l.length := by
  induction l with
  | nil => simp [putN]
  | cons x l ih =>
    have h1 : putN (x :: l) = small x.toNat ++ putN l := by simp [putN]
    have h2 := (smallF_len 10 x.toNat).2
    rw [h1, List.length_append, List.length_cons]
    unfold small
    omega
theorem putN_succ {l : List Int} {k : Nat} (h : k < l.length) : putN (l.take (k + 1)) = putN (l.take k) ++ small l[k].toNat := by
  rw [List.take_succ_eq_append_getElem h, putN_app]
  simp [putN]
theorem wf_ints : ∀ {l : List Int}, wfs (ints l) → ∀ x ∈ l, -9223372036854775808 ≤ x ∧ x ≤ 9223372036854775807
  | [], _, x, hx => by simp at hx
  | y :: l, h, x, hx => by
    simp only [ints, List.map_cons, wfs] at h
    rcases List.mem_cons.1 hx with rfl | hx
    · have := h.1
      simp [go_sem] at this
      omega
    · exact wf_ints h.2 x hx
def puF (pre : List UInt8) (l : List Int) (k : Nat) : St := ⟨[(9, .int .i64 k), (8, .int .i64 l.length), (7, .sl 1 (ints l)), (0, .obj 0 (pre ++ putN (l.take k)).length)], [(0, ⟨.arr, 5, 1, bts (pre ++ putN (l.take k))⟩)], 1024, [], 20, 1, []⟩
theorem put_obj (pre : List UInt8) (l : List Int) (h0 : ∀ x ∈ l, 0 ≤ x) (h1 : pre.length ≤ 1099511627776) (h2 : l.length ≤ 1099511627776) :
    FnR Tryz.prog 81 [⟨.arr, 5, 1, bts pre⟩] [.obj 0 pre.length, .sl 1 (ints l)] [⟨.arr, 5, 1, bts (pre ++ putN l)⟩] (.obj 0 (pre ++ putN l).length) := by
  have hil := ints_pure l
  refine fnR_of mixed Tryz.func81 rfl rfl (by simp [Tryz.ntmps81]) (by simp) fun hwf E => ?_
  simp (disch := omega) [go_sem, ints_len] at hwf
  simp (disch := omega) [Tryz.ntmps81, go_sem, ints_len]
  refine awz_loop mixed (puF pre l) (fun k => k ≤ l.length) (fun k => l.length - k) 0 (by omega) ?_ ?_
  · refine Le.mk [(0, some 0)] [0] ⟨rfl, rfl, rfl⟩ ?_ ?_ ?_ <;> simp [go_sem, puF, hil, bts_pure, bts_len, putN, ints_len]
  · intro k hk
    have hpb := bts_pure (pre ++ putN (l.take k))
    have hbl := bts_len (pre ++ putN (l.take k))
    have hpl := putN_len (l.take k)
    rw [List.length_take] at hpl
    simp (disch := omega) [go_sem, puF]
    refine br_of (fun h => ?_) (fun h => ?_) <;> simp at h
    · have hx := h0 _ (List.getElem_mem h)
      have hxb := (wf_ints hwf.2 _ (List.getElem_mem h)).2
      obtain ⟨x, hx'⟩ := Int.eq_ofNat_of_zero_le hx
      have hsm := small_spec x (by omega)
      have hs1 := (smallF_len 10 x).2
      have hsp := bts_pure (small x)
      have hsl := bts_len (small x)
      have hsu : putN (l.take (k + 1)) = putN (l.take k) ++ small x := by rw [putN_succ h, hx']; rfl
      have hsa : bts (pre ++ putN (l.take k)) ++ bts (small x) = bts (pre ++ putN (l.take (k + 1))) := by rw [← bts_app, hsu, List.append_assoc]
      have hln : (pre ++ putN (l.take (k + 1))).length = (pre ++ putN (l.take k)).length + (small x).length := by rw [hsu, ← List.append_assoc, List.length_append]
      have hpb1 := bts_pure (pre ++ putN (l.take (k + 1)))
      rw [List.length_append] at hbl hln
      have hs2 : (small x).length ≤ 11 := hs1
      simp (disch := omega) [go_sem, ints_len, nth_ints, h, hx']
      refine callK_data hsm [] (by simp [go_sem]) (.inl rfl) (by simp [go_sem, hsp]) (fun _ => ?_)
      simp (disch := omega) [go_sem, hsl, hbl]
      refine ⟨by omega, ?_⟩
      refine round_of (k + 1) (by omega) (by omega) (Le.mk [(0, some 0)] [0] ⟨rfl, rfl, rfl⟩ ?_ ?_ ?_) <;> simp [go_sem, puF, hil, hsa, hpb1]
      all_goals (simp only [List.length_append] at hln; omega)
    · have hkl : k = l.length := by omega
      subst hkl
      rw [List.take_length] at *
      simp (disch := omega) [go_sem]
      refine Le.mk [(0, some 0)] [0] ⟨rfl, rfl, rfl⟩ ?_ ?_ ?_ <;> simp [go_sem, hpb]
end Go.Proofs.YtdeionjkcmpnpaaGreatDoor
