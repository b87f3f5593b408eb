
/- The reference stoplineref05: plans and sites are written. -/
import Derived.Test.YtdeionjkcmpnpaaGreatDoorRef3
import Derived.Test.YtdeionjkcmpnpaaGreatDoorRdQ
import Derived.Test.YtdeionjkcmpnpaaGreatDoorRefS
import Derived.Test.YtdeionjkcmpnpaaGreatDoorPur
set_option linter.unusedSimpArgs false
set_option linter.unusedVariables false
namespace Go.Proofs.YtdeionjkcmpnpaaGreatDoor
open Go.AM Go.RowKit
set_option maxRecDepth 100000

theorem ints_nil : ints [] = [] := rfl
theorem ints_cons (x : Int) (l : List Int) : ints (x :: l) = .int .i64 x :: ints l := rfl
theorem r5small_ref (l : List Int) (h0 : ∀ x ∈ l, 0 ≤ x) (h2 : l.length ≤ 1099511627776) : FnR Tryz.prog 200 [] [.sl 1 (ints l)] [⟨.arr, 5, 1, bts (putN l)⟩] (.obj 0 (putN l).length) := by
  have hil := ints_pure l
  refine fnR_of mixed Tryz.func200 rfl rfl (by simp [Tryz.ntmps200]) (by simp) fun hwf E => ?_
  simp (disch := omega) [go_sem, ints_len] at hwf
  simp (disch := omega) [Tryz.ntmps200, go_sem, ints_len]
  refine awz_loop mixed (fun k : Nat => ⟨[(4, .int .i64 k), (3, .obj 1008 (putN (l.take k)).length), (0, .sl 1 (ints l))], [(1008, ⟨.arr, 5, 1, bts (putN (l.take k))⟩)], 1024, [], 20, 0, []⟩) (fun k => k ≤ l.length) (fun k => l.length - k) 0 ?_ ?_ ?_
  · omega
  · refine Le.mk [(1008, none)] [] ⟨rfl, rfl, rfl⟩ ?_ ?_ ?_ <;> simp [go_sem, ints_len, hil, putN, bts]
  · intro k hk
    have hpb := bts_pure (putN (l.take k))
    have hbl := bts_len (putN (l.take k))
    have hpl := putN_len (l.take k)
    rw [List.length_take] at hpl
    simp (disch := omega) [go_sem, ints_len]
    refine br_of (fun h => ?_) (fun h => ?_) <;> simp at h
    · have hx := h0 _ (List.getElem_mem h)
      have hxb := (wf_ints hwf.2 _ (List.getElem_mem h)).2
      obtain ⟨x, hx'⟩ := Int.eq_ofNat_of_zero_le hx
      have hsm := r3small_spec x (by omega)
      have hs1 := (smallF_len 10 x).2
      have hsp := bts_pure (small x)
      have hsl := bts_len (small x)
      have hsu : putN (l.take (k + 1)) = putN (l.take k) ++ small x := by rw [putN_succ h, hx']; rfl
      have hsa : bts (putN (l.take k)) ++ bts (small x) = bts (putN (l.take (k + 1))) := by rw [← bts_app, hsu]
      have hln : (putN (l.take (k + 1))).length = (putN (l.take k)).length + (small x).length := by rw [hsu, List.length_append]
      have hpb1 := bts_pure (putN (l.take (k + 1)))
      have hs2 : (small x).length ≤ 11 := hs1
      simp (disch := omega) [go_sem, ints_len, hsp, hsl, hbl, nth_ints, h, hx']
      refine callK_data hsm [] (by simp [go_sem, ints_len, hsp, hsl, hbl]) (.inl rfl) (by simp [go_sem, ints_len, hsp, hsl, hbl]) (fun _ => ?_)
      simp (disch := omega) [go_sem, ints_len, hsp, hsl, hbl]
      refine ⟨by omega, ?_⟩
      refine round_of (k + 1) (by omega) (by omega) (Le.mk [(1008, some 1008)] [1008] ⟨rfl, rfl, rfl⟩ ?_ ?_ ?_) <;> simp [go_sem, ints_len, hsp, hsl, hbl, hil, hsa, hpb1, hln]
    · have hkl : k = l.length := by omega
      subst hkl
      rw [List.take_length] at *
      simp (disch := omega) [go_sem, ints_len]
      refine Le.mk [(0, some 1008)] [1008] ⟨rfl, rfl, rfl⟩ ?_ ?_ ?_ <;> simp [go_sem, ints_len, hpb]

/-! Whole -/
def wh5 (l : List Pln) (sl : List (Nat × V)) (hp : List (Nat × AM.Obj)) (a : List Int) (k nx : Nat) : St :=
  ⟨sl ++ [(5, .int .i64 k), (4, .obj 128 (putN a).length), (0, .sl 3 (l.map plnV))], hp ++ [(128, ⟨.arr, 5, 1, bts (putN a)⟩)], nx, [], 80, 0, []⟩
def whM (l : List Pln) (k : Nat) (pc po : Int) (ps : List Int) (m : Nat) : List Int := whA l k ++ ([pc, po, (ps.length : Int)] ++ ps.take m)
theorem whM_zero (l : List Pln) (k : Nat) (pc po : Int) (ps : List Int) : whM l k pc po ps 0 = whA l k ++ [pc, po, (ps.length : Int)] := by simp [whM]
theorem whM_succ {l : List Pln} {k : Nat} {pc po : Int} {ps : List Int} {m : Nat} (h : m < ps.length) : whM l k pc po ps (m + 1) = whM l k pc po ps m ++ [ps[m]] := by
  unfold whM
  rw [List.take_succ_eq_append_getElem h]
  simp [List.append_assoc]
theorem whM_len {l : List Pln} {k : Nat} {pc po : Int} {ps : List Int} {m : Nat} : (whM l k pc po ps m).length ≤ (whA l k).length + 3 + m := by
  unfold whM; simp; omega
theorem whM_end {l : List Pln} {k : Nat} {pc po : Int} {ps : List Int} : whM l k pc po ps ps.length = whA l k ++ ([pc, po, (ps.length : Int)] ++ ps) := by unfold whM; rw [List.take_length]
set_option maxHeartbeats 4000000 in
theorem r5whole_spec (l : List Pln) : FnD Tryz.prog 201 [.sl 3 (l.map plnV)] (.tup [.sl 1 (bts (wholeB l)), .int .i64 (wholeE l)]) := by
  have hpl := plns_pure l
  have hll : (l.map plnV).length = l.length := List.length_map ..
  refine fnD_of mixed Tryz.func201 rfl rfl (by simp [Tryz.ntmps201]) fun hwf E => ?_
  simp (disch := omega) [go_sem, hll, ints_len] at hwf
  simp (disch := omega) [Tryz.ntmps201, go_sem, hll, ints_len]
  refine br_of (fun h8 => ?_) (fun h8 => ?_) <;> simp at h8
  · have e : wholeE l = 4 := by unfold wholeE; rw [if_pos (by omega)]
    have e2 : wholeB l = [] := by unfold wholeB; rw [e, if_neg (by decide)]
    rw [e, e2]
    simp (disch := omega) [go_sem, hll, ints_len, bts]
  · have q0 := r5small_ref [(l.length : Int)] (by simp) (by simp)
    simp (disch := omega) [go_sem, hll, ints_len]
    refine callK_ref q0 [] [] [112] [] ?_ ?_ ?_ (.inl ⟨rfl, .inr (by simp [go_sem, hll, ints_len, bts_noSls, ints_cons, ints_nil, rens_bts, bts_len])⟩) (fun _ => ?_)
    · simp [go_sem, hll, ints_len, bts_noSls, ints_cons, ints_nil, rens_bts, bts_len]
    · simp [go_sem, hll, ints_len, bts_noSls, ints_cons, ints_nil, rens_bts, bts_len]
    · simp [go_sem, hll, ints_len, bts_noSls, ints_cons, ints_nil, rens_bts, bts_len]
    simp (disch := omega) [go_sem, hll, ints_len, bts_noSls, ints_cons, ints_nil, rens_bts, bts_len]
    refine awz_loop mixed (fun k : Nat => wh5 l [] [] (whA l k) k 1024) (fun k => k ≤ l.length ∧ ∀ p ∈ l.take k, PlnW p) (fun k => l.length - k) 0 ?_ ?_ ?_
    · exact ⟨by omega, by simp⟩
    · refine Le.mk [(128, some 128)] [128] ⟨rfl, rfl, rfl⟩ ?_ ?_ ?_ <;> simp [go_sem, hll, ints_len, wh5, whA, hpl, hll, bts_pure]
    · rintro k ⟨hk, hW⟩
      simp (disch := omega) [go_sem, hll, ints_len, wh5]
      refine br_of (fun h => ?_) (fun h => ?_) <;> simp at h
      · have hgp : nth (l.map plnV) k = plnV l[k] := nth_map h
        have hmem : l[k] ∈ l := List.getElem_mem h
        have htk := flat_take (e := planI) h
        have hW1 : PlnW l[k] → ∀ p ∈ l.take (k + 1), PlnW p := fun hp q hq => by
          rw [List.take_succ_eq_append_getElem h, List.mem_append] at hq
          rcases hq with hq | hq
          · exact hW q hq
          · rw [List.mem_singleton] at hq; rw [hq]; exact hp
        have hbad := fun (hp : ¬ PlnW l[k]) => whole_bad (l := l) (p := l[k]) (by omega) hmem hp
        have hsl : (whA l k).length ≤ 1000 := by
          have h1 := flat_len (l := l.take k) (e := planI) (c := 11) fun p hp => by
            have := (hW p hp).2.2.1.2
            simp [planI]; omega
          have h2 : (l.take k).length ≤ 8 := by rw [List.length_take]; omega
          simp only [whA, List.length_cons]
          omega
        have hsb := putN_len (whA l k)
        have hwA : whA l (k + 1) = whA l k ++ (headI l[k] ++ l[k].splits) := by
          simp only [whA, List.cons_append]
          rw [htk]; rfl
        have hwl : wfs (l.map plnV) := hwf.2
        have hwp := wfs_mem hwl _ hmem
        clear hmem htk
        generalize l[k] = p at *
        obtain ⟨pc, po, ps⟩ := p
        simp only at hW1 hbad hwA
        simp only [headI] at hwA
        have hps := ints_pure ps
        have q1 := rin_spec pc 1 1048576
        have q2 := rin_spec po 0 (pc - 1)
        have q3 := rin_spec (ps.length : Int) 1 8
        simp (disch := omega) [go_sem, h, hgp, plnV, hll, ints_len] at hwp ⊢
        have hPW : PlnW ⟨pc, po, ps⟩ = ((1 ≤ pc ∧ pc ≤ 1048576) ∧ (0 ≤ po ∧ po ≤ pc - 1) ∧ (1 ≤ ps.length ∧ ps.length ≤ 8) ∧ ∀ x ∈ ps, 0 ≤ x ∧ x ≤ 1048576) := rfl
        have hB := fun hp => hbad hp
        have eB : ¬ PlnW ⟨pc, po, ps⟩ → wholeB l = [] := fun hp => by unfold wholeB; rw [hbad hp, if_neg (by decide)]
        rw [hPW] at hB eB hW1
        refine callK_bool q1 [] (by simp [go_sem, hll, ints_len]) (fun h1 => ?_) (fun h1 => ?_) <;> try simp [inN] at h1
        · simp (disch := omega) [go_sem, hll, ints_len]
          refine callK_bool q2 [] (by simp [go_sem, hll, ints_len]) (fun h2 => ?_) (fun h2 => ?_) <;> try simp [inN] at h2
          · simp (disch := omega) [go_sem, hll, ints_len]
            refine callK_bool q3 [] (by simp [go_sem, hll, ints_len]) (fun h3 => ?_) (fun h3 => ?_) <;> try simp [inN] at h3
            · have q4 := r5small_ref [pc, po, (ps.length : Int)] (by simp; omega) (by simp)
              have hpq := putN_len [pc, po, (ps.length : Int)]
              simp only [List.length_cons, List.length_nil] at hpq
              simp (disch := omega) [go_sem, hll, ints_len]
              refine callK_ref q4 [] [] [1632] [] ?_ ?_ ?_ (.inl ⟨rfl, .inr (by simp [go_sem, hll, ints_len, bts_noSls, ints_cons, ints_nil, rens_bts, bts_len])⟩) (fun _ => ?_)
              · simp [go_sem, hll, ints_len, bts_noSls, ints_cons, ints_nil, rens_bts, bts_len]
              · simp [go_sem, hll, ints_len, bts_noSls, ints_cons, ints_nil, rens_bts, bts_len]
              · simp [go_sem, hll, ints_len, bts_noSls, ints_cons, ints_nil, rens_bts, bts_len]
              simp (disch := omega) [go_sem, hll, ints_len, bts_noSls, ints_cons, ints_nil, rens_bts, bts_len]
              refine ⟨by omega, ?_⟩
              refine awz_loop mixed (fun m : Nat => wh5 l [(7, .int .i64 m), (6, .ptr 1152 1 0 0)] [(1152, ⟨.box, 89, 3, [.agg [.int .i64 pc, .int .i64 po, .sl 1 (ints ps)]]⟩)] (whM l k pc po ps m) k 2048) (fun m => m ≤ ps.length ∧ ∀ x ∈ ps.take m, 0 ≤ x ∧ x ≤ 1048576) (fun m => ps.length - m) 0 ?_ ?_ ?_
              · exact ⟨by omega, by simp⟩
              · have ea : bts (putN (whA l k)) ++ bts (putN [pc, po, (ps.length : Int)]) = bts (putN (whM l k pc po ps 0)) := by rw [whM_zero, ← bts_app, ← putN_app]
                have el : (putN (whM l k pc po ps 0)).length = (putN (whA l k)).length + (putN [pc, po, (ps.length : Int)]).length := by rw [whM_zero, putN_app, List.length_append]
                refine Le.mk [(128, some 128), (1152, some 1152)] [128, 1152] ⟨rfl, rfl, rfl⟩ ?_ ?_ ?_ <;> simp [go_sem, hll, ints_len, wh5, hpl, hll, bts_pure, bts_len, hps, ea, el]
              · rintro m ⟨hm, hX⟩
                simp (disch := omega) [go_sem, hll, ints_len, wh5]
                refine br_of (fun h4 => ?_) (fun h4 => ?_) <;> simp at h4
                · have hgx := nth_ints h4
                  have hX1 : (0 ≤ ps[m] ∧ ps[m] ≤ 1048576) → ∀ x ∈ ps.take (m + 1), 0 ≤ x ∧ x ≤ 1048576 := fun hp q hq => by
                    rw [List.take_succ_eq_append_getElem h4, List.mem_append] at hq
                    rcases hq with hq | hq
                    · exact hX q hq
                    · rw [List.mem_singleton] at hq; rw [hq]; exact hp
                  have hmm : ps[m] ∈ ps := List.getElem_mem h4
                  have htk : ps.take (m + 1) = ps.take m ++ [ps[m]] := List.take_succ_eq_append_getElem h4
                  have hNo : ¬ (0 ≤ ps[m] ∧ ps[m] ≤ 1048576) → ¬ ((1 ≤ pc ∧ pc ≤ 1048576) ∧ (0 ≤ po ∧ po ≤ pc - 1) ∧ (1 ≤ ps.length ∧ ps.length ≤ 8) ∧ ∀ x ∈ ps, 0 ≤ x ∧ x ≤ 1048576) := fun hn hp => hn (hp.2.2.2 _ hmm)
                  have q5 := rin_spec ps[m] 0 1048576
                  have q6 := fun (hx : 0 ≤ ps[m]) => r5small_ref [ps[m]] (by simpa using hx) (by simp)
                  have hpa : whM l k pc po ps (m + 1) = whM l k pc po ps m ++ [ps[m]] := whM_succ h4
                  clear hmm htk
                  have hpq2 := putN_len [ps[m]]
                  simp only [List.length_cons, List.length_nil] at hpq2
                  generalize ps[m] = x at *
                  have hpm := putN_len (whM l k pc po ps m)
                  have hml := whM_len (l := l) (k := k) (pc := pc) (po := po) (ps := ps) (m := m)
                  have ea : bts (putN (whM l k pc po ps m)) ++ bts (putN [x]) = bts (putN (whM l k pc po ps (m + 1))) := by rw [hpa, ← bts_app, ← putN_app]
                  have el : (putN (whM l k pc po ps (m + 1))).length = (putN (whM l k pc po ps m)).length + (putN [x]).length := by rw [hpa, putN_app _ [x], List.length_append]
                  clear hpa
                  simp (disch := omega) [go_sem, hll, ints_len, h4, hgx]
                  refine callK_bool q5 [] (by simp [go_sem, hll, ints_len]) (fun h5 => ?_) (fun h5 => ?_) <;> try simp [inN] at h5
                  · simp (disch := omega) [go_sem, hll, ints_len, h4, hgx]
                    refine callK_ref ((q6 h5.1)) [] [] [2336] [] ?_ ?_ ?_ (.inl ⟨rfl, .inr (by simp [go_sem, hll, ints_len, bts_noSls, ints_cons, ints_nil, rens_bts, bts_len])⟩) (fun _ => ?_)
                    · simp [go_sem, hll, ints_len, bts_noSls, ints_cons, ints_nil, rens_bts, bts_len]
                    · simp [go_sem, hll, ints_len, bts_noSls, ints_cons, ints_nil, rens_bts, bts_len]
                    · simp [go_sem, hll, ints_len, bts_noSls, ints_cons, ints_nil, rens_bts, bts_len]
                    simp (disch := omega) [go_sem, hll, ints_len, bts_noSls, ints_cons, ints_nil, rens_bts, bts_len]
                    refine ⟨by omega, ?_⟩
                    refine round_of (m + 1) (⟨by omega, hX1 h5⟩) (by omega) (Le.mk [(128, some 128), (1152, some 1152)] [128, 1152] ⟨rfl, rfl, rfl⟩ ?_ ?_ ?_) <;> simp [go_sem, hll, ints_len, wh5, hpl, hll, bts_pure, bts_len, hps, ea, el]
                  · have hn := hNo (by omega)
                    rw [hB hn, eB hn]
                    simp (disch := omega) [go_sem, hll, ints_len, bts]
                · have hml : m = ps.length := by omega
                  subst hml
                  rw [List.take_length] at *
                  have hme := whM_end (l := l) (k := k) (pc := pc) (po := po) (ps := ps)
                  rw [← hwA] at hme
                  simp (disch := omega) [go_sem, hll, ints_len]
                  refine round_of (k + 1) (⟨by omega, hW1 ⟨by omega, by omega, by omega, hX⟩⟩) (by omega) (Le.mk [(128, some 128)] [128] ⟨rfl, rfl, rfl⟩ ?_ ?_ ?_) <;> simp [go_sem, hll, ints_len, wh5, hpl, hll, bts_pure, hps, hme]
            · rw [hB (fun hp => by have := hp.2.2.1; omega), eB (fun hp => by have := hp.2.2.1; omega)]
              simp (disch := omega) [go_sem, hll, ints_len, bts]
          · rw [hB (fun hp => by have := hp.2.1; omega), eB (fun hp => by have := hp.2.1; omega)]
            simp (disch := omega) [go_sem, hll, ints_len, bts]
        · rw [hB (fun hp => by have := hp.1; omega), eB (fun hp => by have := hp.1; omega)]
          simp (disch := omega) [go_sem, hll, ints_len, bts]
      · have hkl : k = l.length := by omega
        subst hkl
        rw [List.take_length] at hW
        have e := whole_of (by omega) hW
        have e2 : wholeB l = putN (whA l l.length) := by unfold wholeB whA; rw [if_pos e, List.take_length]; rfl
        rw [e, e2]
        have hpb := bts_pure (putN (whA l l.length))
        have hlb := bts_len (putN (whA l l.length))
        simp (disch := omega) [go_sem, hll, ints_len]

theorem r5summed_ref (pre : List UInt8) (h1 : pre.length ≤ 1099511627776) : FnR Tryz.prog 39 [⟨.arr, 5, 1, bts pre⟩] [.obj 0 pre.length] [⟨.arr, 5, 1, bts (pre ++ sumB pre)⟩] (.obj 0 (pre ++ sumB pre).length) := by
  have q1 := r3sum_spec pre
  have q2 := r3put_spec (crc pre) (crc_lt pre)
  have hp := bts_pure pre
  have hl := bts_len pre
  have hp2 := bts_pure (put4 (crc pre))
  have hp3 := bts_pure (pre ++ put4 (crc pre))
  have hl4 : (put4 (crc pre)).length = 4 := putB_len _ _
  have hl5 : (bts (put4 (crc pre))).length = 4 := by rw [bts_len, hl4]
  have hw := w64 (show crc pre < 18446744073709551616 by have := crc_lt pre; omega)
  refine fnR_of mixed Tryz.func39 rfl rfl (by simp [Tryz.ntmps39]) (by simp) fun hwf E => ?_
  clear hwf
  simp (disch := omega) [Tryz.ntmps39, go_sem, hp, hl, hp2, hl5, hw]
  refine callK_data q1 [0] (by simp [go_sem, hp, hl, hp2, hl5, hw]) (.inr (by simp [go_sem, hp, hl, hp2, hl5, hw])) (by simp [go_sem, hp, hl, hp2, hl5, hw]) (fun _ => ?_)
  simp (disch := omega) [go_sem, hp, hl, hp2, hl5, hw]
  refine callK_data q2 [] (by simp [go_sem, hp, hl, hp2, hl5, hw]) (.inl rfl) (by simp [go_sem, hp, hl, hp2, hl5, hw]) (fun _ => ?_)
  simp (disch := omega) [go_sem, hp, hl, hp2, hl5, hw]
  refine ⟨by omega, ?_⟩
  have ea : bts pre ++ bts (put4 (crc pre)) = bts (pre ++ sumB pre) := by rw [← bts_app]; rfl
  have el : (sumB pre).length = 4 := hl4
  have hp3 := bts_pure (pre ++ sumB pre)
  refine Le.mk [(0, some 0)] [0] ⟨rfl, rfl, rfl⟩ ?_ ?_ ?_ <;> simp [go_sem, hp, hl, hp2, hl5, hw, ea, el, hp3]
end Go.Proofs.YtdeionjkcmpnpaaGreatDoor
