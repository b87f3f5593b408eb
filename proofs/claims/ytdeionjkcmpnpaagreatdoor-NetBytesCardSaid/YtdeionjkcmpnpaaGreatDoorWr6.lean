
/- The reference stoplineref06: regions are written. -/
import Derived.Test.YtdeionjkcmpnpaaGreatDoorRw5
import Derived.Test.YtdeionjkcmpnpaaGreatDoorNWr
import Derived.Test.YtdeionjkcmpnpaaGreatDoorRefN
set_option linter.unusedSimpArgs false
set_option linter.unusedVariables false
namespace Go.Proofs.YtdeionjkcmpnpaaGreatDoor
open Go.AM Go.RowKit
set_option maxRecDepth 100000

theorem r6small_ref (l : List Int) (h0 : ∀ x ∈ l, 0 ≤ x) (h2 : l.length ≤ 1099511627776) : FnR Tryz.prog 93 [] [.sl 1 (ints l)] [⟨.arr, 5, 1, bts (putN l)⟩] (.obj 0 (putN l).length) := by
  have hil := ints_pure l
  refine fnR_of mixed Tryz.func93 rfl rfl (by simp [Tryz.ntmps93]) (by simp) fun hwf E => ?_
  simp (disch := omega) [go_sem, ints_len] at hwf
  simp (disch := omega) [Tryz.ntmps93, go_sem, ints_len]
  refine awz_loop mixed (fun k : Nat => ⟨[(4, .int .i64 k), (3, .obj 1008 (putN (l.take k)).length), (0, .sl 1 (ints l))], [(1008, ⟨.arr, 5, 1, bts (putN (l.take k))⟩)], 1024, [], 20, 0, []⟩) (fun k => k ≤ l.length) (fun k => l.length - k) 0 ?_ ?_ ?_
  · omega
  · refine Le.mk [(1008, none)] [] ⟨rfl, rfl, rfl⟩ ?_ ?_ ?_ <;> simp [go_sem, ints_len, hil, putN, bts]
  · intro k hk
    have hpb := bts_pure (putN (l.take k))
    have hbl := bts_len (putN (l.take k))
    have hpl := putN_len (l.take k)
    rw [List.length_take] at hpl
    simp (disch := omega) [go_sem, ints_len]
    refine br_of (fun h => ?_) (fun h => ?_) <;> simp at h
    · have hx := h0 _ (List.getElem_mem h)
      have hxb := (wf_ints hwf.2 _ (List.getElem_mem h)).2
      obtain ⟨x, hx'⟩ := Int.eq_ofNat_of_zero_le hx
      have hsm := r3small_spec x (by omega)
      have hs1 := (smallF_len 10 x).2
      have hsp := bts_pure (small x)
      have hsl := bts_len (small x)
      have hsu : putN (l.take (k + 1)) = putN (l.take k) ++ small x := by rw [putN_succ h, hx']; rfl
      have hsa : bts (putN (l.take k)) ++ bts (small x) = bts (putN (l.take (k + 1))) := by rw [← bts_app, hsu]
      have hln : (putN (l.take (k + 1))).length = (putN (l.take k)).length + (small x).length := by rw [hsu, List.length_append]
      have hpb1 := bts_pure (putN (l.take (k + 1)))
      have hs2 : (small x).length ≤ 11 := hs1
      simp (disch := omega) [go_sem, ints_len, hsp, hsl, hbl, nth_ints, h, hx']
      refine callK_data hsm [] (by simp [go_sem, ints_len, hsp, hsl, hbl]) (.inl rfl) (by simp [go_sem, ints_len, hsp, hsl, hbl]) (fun _ => ?_)
      simp (disch := omega) [go_sem, ints_len, hsp, hsl, hbl]
      refine ⟨by omega, ?_⟩
      refine round_of (k + 1) (by omega) (by omega) (Le.mk [(1008, some 1008)] [1008] ⟨rfl, rfl, rfl⟩ ?_ ?_ ?_) <;> simp [go_sem, ints_len, hsp, hsl, hbl, hil, hsa, hpb1, hln]
    · have hkl : k = l.length := by omega
      subst hkl
      rw [List.take_length] at *
      simp (disch := omega) [go_sem, ints_len]
      refine Le.mk [(0, some 1008)] [1008] ⟨rfl, rfl, rfl⟩ ?_ ?_ ?_ <;> simp [go_sem, ints_len, hpb]

theorem bts_next {P Q R : List UInt8} (h : R = P ++ Q) : bts P ++ bts Q = bts R ∧ R.length = P.length + Q.length := by
  subst h
  exact ⟨by rw [← bts_app], List.length_append⟩
def in6 (n : NetN) (sl : List (Nat × V)) (P : List UInt8) (nx : Nat) : St :=
  ⟨sl ++ [(3, .obj 112 P.length), (1, .ptr 16 1 0 0)], [(112, ⟨.arr, 5, 1, bts P⟩), (16, ⟨.box, 26, 6, [netV n]⟩)], nx, [], 122, 0, []⟩
set_option maxHeartbeats 8000000 in
theorem r6inside_ref (n : NetN) (hOk : NetOk n) : FnR Tryz.prog 40 [] [netV n] [⟨.arr, 5, 1, bts (insideN n)⟩] (.obj 0 (insideN n).length) := by
  have hnv : netV n = .agg [.sl 12 (n.sites.map sitV), .sl 2 (n.subs.map subV), .sl 4 (n.weds.map wedV), .int .i64 n.low, .int .i64 n.high, .int .i64 n.step] := rfl
  have hW := hOk.written
  have hL := nwP_len hW
  have u1 := hW.sl; have u2 := hW.ul; have u3 := hW.wl
  have q0 := r6small_ref [(n.sites.length : Int)] (by simp) (by simp)
  rw [hnv]
  refine fnR_of mixed Tryz.func40 rfl rfl (by simp [Tryz.ntmps40]) (by simp) fun hwf E => ?_
  clear hwf
  simp (disch := omega) [Tryz.ntmps40, go_sem]
  refine callK_ref q0 [] [] [96] [] ?_ ?_ ?_ (.inl ⟨rfl, .inr (by simp [go_sem, ints_cons, ints_nil])⟩) (fun _ => ?_)
  · simp [go_sem, ints_cons, ints_nil]
  · simp [go_sem, ints_cons, ints_nil]
  · simp [go_sem, ints_cons, ints_nil]
  simp (disch := omega) [go_sem, ints_cons, ints_nil]
  refine awz_loop mixed (fun k : Nat => in6 n [(4, .int .i64 k)] (nwP1 n k) 1024) (fun k => k ≤ n.sites.length) (fun k => n.sites.length - k) 0 ?_ ?_ ?_
  · omega
  · have h0 : putN [(n.sites.length : Int)] = nwP1 n 0 := by simp [nwP1]
    refine Le.mk [(16, some 16), (112, some 112)] [16, 112] ⟨rfl, rfl, rfl⟩ ?_ ?_ ?_ <;> simp [go_sem, in6, netV, h0]
  · intro k hk
    have hLk := hL k
    simp (disch := omega) [go_sem, in6, netV]
    refine br_of (fun h => ?_) (fun h => ?_) <;> simp at h
    · have hso := hW.so _ (List.getElem_mem h)
      have hA := nwP1_succ h
      have hwl := (siteNB_len hso).2
      have qw := r5write_spec n.sites[k]
      rw [checkN_ok hso, show writeV n.sites[k] = writeB n.sites[k] by unfold writeV; rw [if_pos hso]] at qw
      have hsv : sitV n.sites[k] = .agg [.int .i64 n.sites[k].id, .sl 3 (n.sites[k].groups.map grpV), .sl 1 (sets n.sites[k].apart), .sl 1 (rows n.sites[k].between), .sl 5 (n.sites[k].phases.map phaV), .sl 4 (n.sites[k].eyes.map eyeV), .int .i64 n.sites[k].watch, .int .i64 n.sites[k].feed, .int .i64 n.sites[k].heal, .int .i64 n.sites[k].low, .int .i64 n.sites[k].high, .sl 3 (n.sites[k].plans.map plnV)] := rfl
      have hg : nth (n.sites.map sitV) k = sitV n.sites[k] := nth_map h
      rw [hsv] at hg qw
      clear hsv
      generalize n.sites[k] = x at *
      have q1 := r6small_ref [((writeB x).length : Int)] (by simp) (by simp)
      have hp1 := putN_len [((writeB x).length : Int)]
      simp only [List.length_cons, List.length_nil] at hp1
      obtain ⟨ea, el⟩ := bts_next (show nwP1 n k ++ putN [((writeB x).length : Int)] = nwP1 n k ++ putN [((writeB x).length : Int)] from rfl)
      obtain ⟨eb, el2⟩ := bts_next hA
      rw [el] at el2
      rw [← ea, List.append_assoc] at eb
      simp (disch := omega) [go_sem, h, hg]
      refine callK_data qw [] (by simp [go_sem]) (.inl rfl) (by simp [go_sem]) (fun _ => ?_)
      simp (disch := omega) [go_sem]
      refine callK_ref q1 [] [] [1328] [] ?_ ?_ ?_ (.inl ⟨rfl, .inr (by simp [go_sem, ints_cons, ints_nil])⟩) (fun _ => ?_)
      · simp [go_sem, ints_cons, ints_nil]
      · simp [go_sem, ints_cons, ints_nil]
      · simp [go_sem, ints_cons, ints_nil]
      simp (disch := omega) [go_sem, ints_cons, ints_nil]
      refine ⟨by omega, by omega, ?_⟩
      refine round_of (k + 1) (by omega) (by omega) (Le.mk [(16, some 16), (112, some 112)] [16, 112] ⟨rfl, rfl, rfl⟩ ?_ ?_ ?_) <;> simp [go_sem, in6, netV, eb, el2]
    · have hkl : k = n.sites.length := by omega
      subst hkl
      have hLk := hL n.sites.length
      have q2 := r6small_ref [(n.subs.length : Int)] (by simp) (by simp)
      have hp1 := putN_len [(n.subs.length : Int)]
      simp only [List.length_cons, List.length_nil] at hp1
      obtain ⟨ea, el⟩ := bts_next (show nwP2 n 0 = nwP1 n n.sites.length ++ putN [(n.subs.length : Int)] by simp [nwP2])
      simp (disch := omega) [go_sem]
      refine callK_ref q2 [] [] [1168] [] ?_ ?_ ?_ (.inl ⟨rfl, .inr (by simp [go_sem, ints_cons, ints_nil])⟩) (fun _ => ?_)
      · simp [go_sem, ints_cons, ints_nil]
      · simp [go_sem, ints_cons, ints_nil]
      · simp [go_sem, ints_cons, ints_nil]
      simp (disch := omega) [go_sem, ints_cons, ints_nil]
      refine ⟨by omega, ?_⟩
      refine awz_loop mixed (fun k : Nat => in6 n [(7, .int .i64 k)] (nwP2 n k) 2048) (fun k => k ≤ n.subs.length) (fun k => n.subs.length - k) 0 ?_ ?_ ?_
      · omega
      · refine Le.mk [(16, some 16), (112, some 112)] [16, 112] ⟨rfl, rfl, rfl⟩ ?_ ?_ ?_ <;> simp [go_sem, in6, netV, ea, el]
      · intro k hk
        have hLk := hL k
        simp (disch := omega) [go_sem, in6, netV]
        refine br_of (fun h => ?_) (fun h => ?_) <;> simp at h
        · have hg : nth (n.subs.map subV) k = subV n.subs[k] := nth_map h
          have hu := hW.us _ (List.getElem_mem h)
          have hA := nwP2_succ h
          have hLk1 := hL (k + 1)
          generalize n.subs[k] = x at *
          obtain ⟨x1, x2⟩ := x
          simp only at hu hA
          rw [show subV ⟨x1, x2⟩ = .agg [.sl 1 (ints x1), .int .i64 x2] from rfl] at hg
          have q3 := r6small_ref [(x1.length : Int)] (by simp) (by simp)
          have q4 := r6small_ref x1 (fun y hy => (hu.2.1 y hy).1) (by omega)
          have q5 := r6small_ref [x2] (by simp; omega) (by simp)
          obtain ⟨a1, l1⟩ := bts_next (show nwP2 n k ++ putN [(x1.length : Int)] = nwP2 n k ++ putN [(x1.length : Int)] from rfl)
          obtain ⟨a2, l2⟩ := bts_next (show nwP2 n k ++ putN [(x1.length : Int)] ++ putN x1 = nwP2 n k ++ putN [(x1.length : Int)] ++ putN x1 from rfl)
          obtain ⟨a3, l3⟩ := bts_next hA
          rw [← a2, ← a1] at a3
          rw [l2, l1] at l3
          simp only [List.append_assoc] at a3
          simp (disch := omega) [go_sem, h, hg]
          refine callK_ref q3 [] [] [2304] [] ?_ ?_ ?_ (.inl ⟨rfl, .inr (by simp [go_sem, ints_cons, ints_nil])⟩) (fun _ => ?_)
          · simp [go_sem, ints_cons, ints_nil]
          · simp [go_sem, ints_cons, ints_nil]
          · simp [go_sem, ints_cons, ints_nil]
          simp (disch := omega) [go_sem, ints_cons, ints_nil]
          refine ⟨by omega, ?_⟩
          refine callK_ref q4 [] [] [] [] ?_ ?_ ?_ (.inl ⟨rfl, .inl rfl⟩) (fun _ => ?_)
          · simp [go_sem]
          · simp [go_sem]
          · simp [go_sem]
          simp (disch := omega) [go_sem]
          refine ⟨by omega, ?_⟩
          refine callK_ref q5 [] [] [2512] [] ?_ ?_ ?_ (.inl ⟨rfl, .inr (by simp [go_sem, ints_cons, ints_nil])⟩) (fun _ => ?_)
          · simp [go_sem, ints_cons, ints_nil]
          · simp [go_sem, ints_cons, ints_nil]
          · simp [go_sem, ints_cons, ints_nil]
          simp (disch := omega) [go_sem, ints_cons, ints_nil]
          refine ⟨by omega, ?_⟩
          refine round_of (k + 1) (by omega) (by omega) (Le.mk [(16, some 16), (112, some 112)] [16, 112] ⟨rfl, rfl, rfl⟩ ?_ ?_ ?_) <;> simp [go_sem, in6, netV, a3, l3]
        · have hkl : k = n.subs.length := by omega
          subst hkl
          have q6 := r6small_ref [n.low, n.high, n.step, (n.weds.length : Int)] (by have a := hW.lo; have b := hW.hi; have c := hW.st; simp; omega) (by simp)
          have hp6 := putN_len [n.low, n.high, n.step, (n.weds.length : Int)]
          simp only [List.length_cons, List.length_nil] at hp6
          obtain ⟨ea, el⟩ := bts_next (show nwP3 n 0 = nwP2 n n.subs.length ++ putN [n.low, n.high, n.step, (n.weds.length : Int)] by simp [nwP3])
          simp (disch := omega) [go_sem]
          refine callK_ref q6 [] [] [2288] [] ?_ ?_ ?_ (.inl ⟨rfl, .inr (by simp [go_sem, ints_cons, ints_nil])⟩) (fun _ => ?_)
          · simp [go_sem, ints_cons, ints_nil]
          · simp [go_sem, ints_cons, ints_nil]
          · simp [go_sem, ints_cons, ints_nil]
          simp (disch := omega) [go_sem, ints_cons, ints_nil]
          refine ⟨by omega, ?_⟩
          refine awz_loop mixed (fun k : Nat => in6 n [(9, .int .i64 k)] (nwP3 n k) 4096) (fun k => k ≤ n.weds.length) (fun k => n.weds.length - k) 0 ?_ ?_ ?_
          · omega
          · refine Le.mk [(16, some 16), (112, some 112)] [16, 112] ⟨rfl, rfl, rfl⟩ ?_ ?_ ?_ <;> simp [go_sem, in6, netV, ea, el]
          · intro k hk
            have hLk := hL k
            simp (disch := omega) [go_sem, in6, netV]
            refine br_of (fun h => ?_) (fun h => ?_) <;> simp at h
            · have hg : nth (n.weds.map wedV) k = wedV n.weds[k] := nth_map h
              have hu := hW.ws _ (List.getElem_mem h)
              have hA := nwP3_succ h
              have hLk1 := hL (k + 1)
              generalize n.weds[k] = x at *
              obtain ⟨x1, x2, x3, x4⟩ := x
              simp only at hu hA
              rw [show wedV ⟨x1, x2, x3, x4⟩ = .agg [.int .i64 x1, .int .i64 x2, .int .i64 x3, .sl 1 (ints x4)] from rfl] at hg
              have q3 := r6small_ref [x1, x2, x3, (x4.length : Int)] (by simp; omega) (by simp)
              have q4 := r6small_ref x4 (fun y hy => (hu.2.2.2.2 y hy).1) (by omega)
              obtain ⟨a1, l1⟩ := bts_next (show nwP3 n k ++ putN [x1, x2, x3, (x4.length : Int)] = nwP3 n k ++ putN [x1, x2, x3, (x4.length : Int)] from rfl)
              obtain ⟨a3, l3⟩ := bts_next hA
              rw [← a1] at a3
              rw [l1] at l3
              simp only [List.append_assoc] at a3
              simp (disch := omega) [go_sem, h, hg]
              refine callK_ref q3 [] [] [4448] [] ?_ ?_ ?_ (.inl ⟨rfl, .inr (by simp [go_sem, ints_cons, ints_nil])⟩) (fun _ => ?_)
              · simp [go_sem, ints_cons, ints_nil]
              · simp [go_sem, ints_cons, ints_nil]
              · simp [go_sem, ints_cons, ints_nil]
              simp (disch := omega) [go_sem, ints_cons, ints_nil]
              refine ⟨by omega, ?_⟩
              refine callK_ref q4 [] [] [] [] ?_ ?_ ?_ (.inl ⟨rfl, .inl rfl⟩) (fun _ => ?_)
              · simp [go_sem]
              · simp [go_sem]
              · simp [go_sem]
              simp (disch := omega) [go_sem]
              refine ⟨by omega, ?_⟩
              refine round_of (k + 1) (by omega) (by omega) (Le.mk [(16, some 16), (112, some 112)] [16, 112] ⟨rfl, rfl, rfl⟩ ?_ ?_ ?_) <;> simp [go_sem, in6, netV, a3, l3]
            · have hkl : k = n.weds.length := by omega
              subst hkl
              rw [nwP3_all]
              simp (disch := omega) [go_sem]
              refine Le.mk [(0, some 112)] [112] ⟨rfl, rfl, rfl⟩ ?_ ?_ ?_ <;> simp [go_sem]

theorem r6write_spec (n : NetN) : FnD Tryz.prog 11 [netV n] (.tup [.sl 1 (bts (netE n)), .int .i64 (netN n)]) := by
  have hnv : netV n = .agg [.sl 12 (n.sites.map sitV), .sl 2 (n.subs.map subV), .sl 4 (n.weds.map wedV), .int .i64 n.low, .int .i64 n.high, .int .i64 n.step] := rfl
  have hc := r6check_spec n
  have hi := r6inside_ref n
  have hs := r5summed_ref (insideN n)
  rw [hnv] at hc hi ⊢
  refine fnD_of mixed Tryz.func11 rfl rfl (by simp [Tryz.ntmps11]) fun hwf E => ?_
  clear hwf
  simp (disch := omega) [Tryz.ntmps11, go_sem]
  refine callK_data hc [] (by simp [go_sem]) (.inl rfl) (by simp [go_sem]) (fun _ => ?_)
  simp (disch := omega) [go_sem]
  by_cases hOk : NetOk n
  · have hl := (nwP_len hOk.written n.weds.length).2.2
    rw [nwP3_all] at hl
    have hwl := writeNB_len n
    have ew : netE n = writeNB n := by unfold netE; rw [if_pos (netN_ok hOk)]
    have e2 : insideN n ++ sumB (insideN n) = writeNB n := rfl
    have hs := hs (by omega)
    rw [e2] at hs
    rw [netN_ok hOk, ew]
    simp (disch := omega) [go_sem]
    refine callK_ref ((hi hOk)) [] [] [] [] ?_ ?_ ?_ (.inl ⟨rfl, .inl rfl⟩) (fun _ => ?_)
    · simp [go_sem]
    · simp [go_sem]
    · simp [go_sem]
    simp (disch := omega) [go_sem]
    refine callK_ref hs [(0, some 144)] [144] [] [] ?_ ?_ ?_ (.inl ⟨rfl, .inl rfl⟩) (fun _ => ?_)
    · simp [go_sem]
    · simp [go_sem]
    · simp [go_sem]
    simp (disch := omega) [go_sem]
    exact argsLe_self (bts_pure _)
  · have ew : netE n = [] := by unfold netE; rw [if_neg (by rw [netN_bad hOk]; decide)]
    rw [netN_bad hOk, ew]
    simp (disch := omega) [go_sem, bts]
end Go.Proofs.YtdeionjkcmpnpaaGreatDoor
