
/- The layer net: regions are written. -/
import Derived.Test.YtdeionjkcmpnpaaGreatDoorNetB
import Derived.Test.YtdeionjkcmpnpaaGreatDoorPur
set_option linter.unusedSimpArgs false
set_option linter.unusedVariables false
namespace Go.Proofs.YtdeionjkcmpnpaaGreatDoor
open Go.AM Go.RowKit
set_option maxRecDepth 100000

theorem nsum_ref (l : List UInt8) : FnR Tryz.prog 37 [] [.sl 1 (bts l)] [⟨.arr, 5, 1, bts (sumB l)⟩] (.obj 0 4) := by
  have q1 := rawSum_spec l
  have q2 := put_ref (crc l) (crc_lt l)
  have hp := bts_pure l
  have hp2 := bts_pure (put4 (crc l))
  refine fnR_of mixed Tryz.func37 rfl rfl (by simp [Tryz.ntmps37]) (by simp) fun hwf E => ?_
  simp (disch := omega) [Tryz.ntmps37, go_sem]
  refine callK_data q1 [] (by simp [go_sem, hp]) (.inl rfl) (by simp [go_sem]) (fun _ => ?_)
  simp (disch := omega) [go_sem, w64 (show crc l < 18446744073709551616 by have := crc_lt l; omega)]
  refine callK_ref q2 [] [] [] [] ?_ ?_ ?_ (.inl ⟨rfl, .inl rfl⟩) (fun _ => ?_)
  · simp [go_sem]
  · simp [go_sem]
  · simp [go_sem]
  simp (disch := omega) [go_sem, sumB]
  refine Le.mk [(0, some 80)] [80] ⟨rfl, rfl, rfl⟩ ?_ ?_ ?_ <;> simp [go_sem, hp2]

theorem nput_obj (pre : List UInt8) (l : List Int) (h0 : ∀ x ∈ l, 0 ≤ x) (h1 : pre.length ≤ 1099511627776) (h2 : l.length ≤ 1099511627776) :
    FnR Tryz.prog 35 [⟨.arr, 5, 1, bts pre⟩] [.obj 0 pre.length, .sl 1 (ints l)] [⟨.arr, 5, 1, bts (pre ++ putN l)⟩] (.obj 0 (pre ++ putN l).length) := by
  have hil := ints_pure l
  refine fnR_of mixed Tryz.func35 rfl rfl (by simp [Tryz.ntmps35]) (by simp) fun hwf E => ?_
  simp (disch := omega) [go_sem, ints_len] at hwf
  simp (disch := omega) [Tryz.ntmps35, go_sem, ints_len]
  refine awz_loop mixed (puF pre l) (fun k => k ≤ l.length) (fun k => l.length - k) 0 (by omega) ?_ ?_
  · refine Le.mk [(0, some 0)] [0] ⟨rfl, rfl, rfl⟩ ?_ ?_ ?_ <;> simp [go_sem, puF, hil, bts_pure, bts_len, putN, ints_len]
  · intro k hk
    have hpb := bts_pure (pre ++ putN (l.take k))
    have hbl := bts_len (pre ++ putN (l.take k))
    have hpl := putN_len (l.take k)
    rw [List.length_take] at hpl
    simp (disch := omega) [go_sem, puF]
    refine br_of (fun h => ?_) (fun h => ?_) <;> simp at h
    · have hx := h0 _ (List.getElem_mem h)
      have hxb := (wf_ints hwf.2 _ (List.getElem_mem h)).2
      obtain ⟨x, hx'⟩ := Int.eq_ofNat_of_zero_le hx
      have hsm := small_spec x (by omega)
      have hs1 := (smallF_len 10 x).2
      have hsp := bts_pure (small x)
      have hsl := bts_len (small x)
      have hsu : putN (l.take (k + 1)) = putN (l.take k) ++ small x := by rw [putN_succ h, hx']; rfl
      have hsa : bts (pre ++ putN (l.take k)) ++ bts (small x) = bts (pre ++ putN (l.take (k + 1))) := by rw [← bts_app, hsu, List.append_assoc]
      have hln : (pre ++ putN (l.take (k + 1))).length = (pre ++ putN (l.take k)).length + (small x).length := by rw [hsu, ← List.append_assoc, List.length_append]
      have hpb1 := bts_pure (pre ++ putN (l.take (k + 1)))
      rw [List.length_append] at hbl hln
      have hs2 : (small x).length ≤ 11 := hs1
      simp (disch := omega) [go_sem, ints_len, nth_ints, h, hx']
      refine callK_data hsm [] (by simp [go_sem]) (.inl rfl) (by simp [go_sem, hsp]) (fun _ => ?_)
      simp (disch := omega) [go_sem, hsl, hbl]
      refine ⟨by omega, ?_⟩
      refine round_of (k + 1) (by omega) (by omega) (Le.mk [(0, some 0)] [0] ⟨rfl, rfl, rfl⟩ ?_ ?_ ?_) <;> simp [go_sem, puF, hil, hsa, hpb1]
      all_goals (simp only [List.length_append] at hln; omega)
    · have hkl : k = l.length := by omega
      subst hkl
      rw [List.take_length] at *
      simp (disch := omega) [go_sem]
      refine Le.mk [(0, some 0)] [0] ⟨rfl, rfl, rfl⟩ ?_ ?_ ?_ <;> simp [go_sem, hpb]

theorem nints_nil : ints [] = [] := rfl
theorem nints_cons (x : Int) (l : List Int) : ints (x :: l) = .int .i64 x :: ints l := rfl
theorem nput_nil (l : List Int) (h0 : ∀ x ∈ l, 0 ≤ x) (h2 : l.length ≤ 1099511627776) :
    FnR Tryz.prog 35 [⟨.arr, 5, 1, []⟩] [.obj 0 0, .sl 1 (ints l)] [⟨.arr, 5, 1, bts (putN l)⟩] (.obj 0 (putN l).length) := by
  have := nput_obj [] l h0 (by simp) h2
  simpa [putN, bts] using this
def nwP1 (n : NetN) (k : Nat) : List UInt8 := putN [(n.sites.length : Int)] ++ (n.sites.take k).flatMap siteNB
def nwP2 (n : NetN) (k : Nat) : List UInt8 := nwP1 n n.sites.length ++ putN ((n.subs.length : Int) :: (n.subs.take k).flatMap subI)
def nwP3 (n : NetN) (k : Nat) : List UInt8 := nwP2 n n.subs.length ++ putN ([n.low, n.high, n.step, (n.weds.length : Int)] ++ (n.weds.take k).flatMap wedI)
theorem nwP1_succ {n : NetN} {k : Nat} (h : k < n.sites.length) : nwP1 n (k + 1) = nwP1 n k ++ putN [((writeB n.sites[k]).length : Int)] ++ writeB n.sites[k] := by
  unfold nwP1
  rw [List.take_succ_eq_append_getElem h, List.flatMap_append]
  simp [siteNB, List.append_assoc]
theorem nwP2_succ {n : NetN} {k : Nat} (h : k < n.subs.length) : nwP2 n (k + 1) = nwP2 n k ++ putN [(n.subs[k].sites.length : Int)] ++ putN n.subs[k].sites ++ putN [n.subs[k].critical] := by
  unfold nwP2
  rw [flat_take h, ← List.cons_append, putN_app, subI, ← List.append_assoc, show ∀ (x : Int) (a b : List Int), x :: (a ++ b) = [x] ++ a ++ b from fun _ _ _ => rfl, putN_app, putN_app]
  simp only [List.append_assoc]
theorem nwP3_succ {n : NetN} {k : Nat} (h : k < n.weds.length) : nwP3 n (k + 1) = nwP3 n k ++ putN [n.weds[k].a, n.weds[k].b, n.weds[k].votes, (n.weds[k].offsets.length : Int)] ++ putN n.weds[k].offsets := by
  unfold nwP3
  rw [flat_take h, ← List.append_assoc, putN_app, show wedI n.weds[k] = [n.weds[k].a, n.weds[k].b, n.weds[k].votes, (n.weds[k].offsets.length : Int)] ++ n.weds[k].offsets from rfl, putN_app [n.weds[k].a, n.weds[k].b, n.weds[k].votes, (n.weds[k].offsets.length : Int)]]
  simp only [List.append_assoc]
theorem nwP3_all (n : NetN) : nwP3 n n.weds.length = insideN n := by
  unfold nwP3 nwP2 nwP1 insideN netI
  simp only [List.take_length, ← putN_app, List.append_assoc]
  simp
theorem fm_len {α : Type} (f : α → List UInt8) (c : Nat) : ∀ l : List α, (∀ x ∈ l, (f x).length ≤ c) → (l.flatMap f).length ≤ c * l.length
  | [], _ => by simp
  | x :: l, h => by
    have h1 := h x (by simp)
    have h2 := fm_len f c l fun y hy => h y (by simp [hy])
    rw [List.flatMap_cons, List.length_append, List.length_cons, Nat.mul_add, Nat.mul_one]
    omega
theorem siteNB_len {s : Sit} (h : SiteOk s) : (siteNB s).length ≤ 6109 ∧ (writeB s).length ≤ 6098 := by
  have h1 := insideB_len h.written
  have h2 := writeB_len s
  have h3 := putN_len [((writeB s).length : Int)]
  simp only [List.length_cons, List.length_nil] at h3
  unfold siteNB
  rw [List.length_append]
  omega
theorem nwP_len {n : NetN} (h : NetW n) (k : Nat) : (nwP1 n k).length ≤ 80000 ∧ (nwP2 n k).length ≤ 90000 ∧ (nwP3 n k).length ≤ 100000 := by
  have hA : ∀ k, (nwP1 n k).length ≤ 80000 := fun k => by
    unfold nwP1
    have h1 := putN_len [(n.sites.length : Int)]
    have h2 := fm_len siteNB 6109 (n.sites.take k) fun s hs => (siteNB_len (h.so s (List.mem_of_mem_take hs))).1
    have h3 : (n.sites.take k).length ≤ 12 := by rw [List.length_take]; have := h.sl; omega
    simp only [List.length_cons, List.length_nil] at h1
    rw [List.length_append]
    omega
  have hB : ∀ k, (nwP2 n k).length ≤ 90000 := fun k => by
    unfold nwP2
    have h1 := putN_len ((n.subs.length : Int) :: (n.subs.take k).flatMap subI)
    have h2 := flat_len (l := n.subs.take k) (e := subI) (c := 14) fun u hu => by have := (h.us u (List.mem_of_mem_take hu)).1; simp [subI]; omega
    have h3 : (n.subs.take k).length ≤ 6 := by rw [List.length_take]; have := h.ul; omega
    have h4 := hA n.sites.length
    simp only [List.length_cons] at h1
    rw [List.length_append]
    omega
  refine ⟨hA k, hB k, ?_⟩
  unfold nwP3
  have h1 := putN_len ([n.low, n.high, n.step, (n.weds.length : Int)] ++ (n.weds.take k).flatMap wedI)
  have h2 := flat_len (l := n.weds.take k) (e := wedI) (c := 12) fun u hu => by have := (h.ws u (List.mem_of_mem_take hu)).2.2.2.1; simp [wedI]; omega
  have h3 : (n.weds.take k).length ≤ 8 := by rw [List.length_take]; have := h.wl; omega
  have h4 := hB n.subs.length
  simp only [List.length_append, List.length_cons, List.length_nil] at h1
  rw [List.length_append]
  omega
def nwS (n : NetN) (sl : List (Nat × V)) (P : List UInt8) (nx : Nat) : St :=
  ⟨sl ++ [(5, .obj 192 P.length), (1, .ptr 0 1 0 0)], [(192, ⟨.arr, 5, 1, bts P⟩), (0, ⟨.box, 26, 6, [netV n]⟩)], nx, [], 112, 0, tabG⟩
set_option maxHeartbeats 8000000 in
theorem nwrite_spec (n : NetN) : FnD Tryz.prog 10 [netV n] (.tup [.sl 1 (bts (netE n)), .int .i64 (netN n)]) tabG := by
  have hnv : netV n = .agg [.sl 12 (n.sites.map sitV), .sl 2 (n.subs.map subV), .sl 4 (n.weds.map wedV), .int .i64 n.low, .int .i64 n.high, .int .i64 n.step] := rfl
  have hc := ncheck_spec n
  rw [hnv] at hc ⊢
  refine fnD_of mixed Tryz.func10 rfl rfl (by simp [Tryz.ntmps10]) fun hwf E => ?_
  clear hwf
  simp (disch := omega) [Tryz.ntmps10, go_sem]
  refine callK_data hc [] (by simp [go_sem]) (.inl rfl) (by simp [go_sem]) (fun _ => ?_) (by simp [tabG, go_sem])
  simp (disch := omega) [go_sem]
  by_cases hOk : NetOk n
  · have hW := hOk.written
    have hL := nwP_len hW
    have e : netE n = writeNB n := by unfold netE; rw [if_pos (netN_ok hOk)]
    have u1 := hW.sl; have u2 := hW.ul; have u3 := hW.wl
    rw [netN_ok hOk, e]
    have q0 := nput_nil [(n.sites.length : Int)] (by simp) (by simp)
    simp (disch := omega) [go_sem]
    refine callK_ref q0 [(0, none)] [] [176] [] ?_ ?_ ?_ (.inl ⟨rfl, .inr (by simp [go_sem, nints_cons, nints_nil])⟩) (fun _ => ?_)
    · simp [go_sem, nints_cons, nints_nil]
    · simp [go_sem, nints_cons, nints_nil]
    · simp [go_sem, nints_cons, nints_nil]
    simp (disch := omega) [go_sem, nints_cons, nints_nil]
    refine awz_loop mixed (fun k : Nat => nwS n [(27, .int .i64 k), (26, .int .i64 n.sites.length), (25, .sl 12 (n.sites.map sitV))] (nwP1 n k) 1024) (fun k => k ≤ n.sites.length) (fun k => n.sites.length - k) 0 ?_ ?_ ?_
    · omega
    · have h0 : putN [(n.sites.length : Int)] = nwP1 n 0 := by simp [nwP1]
      refine Le.mk [(0, some 0), (192, some 192)] [0, 192] ⟨rfl, rfl, rfl⟩ ?_ ?_ ?_ <;> simp [go_sem, nwS, netV, h0]
    · intro k hk
      have hLk := hL k
      simp (disch := omega) [go_sem, nwS, netV]
      refine br_of (fun h => ?_) (fun h => ?_) <;> simp at h
      · have hg : nth (n.sites.map sitV) k = sitV n.sites[k] := nth_map h
        have hso := hW.so _ (List.getElem_mem h)
        have hA := nwP1_succ h
        have hwl := (siteNB_len hso).2
        have qw := write_spec n.sites[k]
        rw [checkN_ok hso, show writeV n.sites[k] = writeB n.sites[k] by unfold writeV; rw [if_pos hso]] at qw
        have hsv : sitV n.sites[k] = .agg [.int .i64 n.sites[k].id, .sl 3 (n.sites[k].groups.map grpV), .sl 1 (sets n.sites[k].apart), .sl 1 (rows n.sites[k].between), .sl 5 (n.sites[k].phases.map phaV), .sl 4 (n.sites[k].eyes.map eyeV), .int .i64 n.sites[k].watch, .int .i64 n.sites[k].feed, .int .i64 n.sites[k].heal, .int .i64 n.sites[k].low, .int .i64 n.sites[k].high, .sl 3 (n.sites[k].plans.map plnV)] := rfl
        rw [hsv] at hg qw
        clear hsv
        generalize n.sites[k] = x at *
        have q1 := nput_obj (nwP1 n k) [((writeB x).length : Int)] (by simp) (by omega) (by simp)
        have hp1 := putN_len [((writeB x).length : Int)]
        simp only [List.length_cons, List.length_nil] at hp1
        have eb : bts (nwP1 n k ++ putN [((writeB x).length : Int)]) ++ bts (writeB x) = bts (nwP1 n (k + 1)) := by rw [hA, ← bts_app]
        have el : (nwP1 n k ++ putN [((writeB x).length : Int)]).length + (writeB x).length = (nwP1 n (k + 1)).length := by rw [hA]; simp only [List.length_append]
        have el2 := el
        rw [List.length_append] at el2
        generalize nwP1 n k ++ putN [((writeB x).length : Int)] = Q at *
        simp (disch := omega) [go_sem, h, hg]
        refine callK_data qw [] (by simp [go_sem]) (.inl rfl) (by simp [go_sem]) (fun _ => ?_) (by simp [tabG, go_sem])
        simp (disch := omega) [go_sem]
        refine callK_ref q1 [(0, some 192)] [192] [1296] [] ?_ ?_ ?_ (.inl ⟨rfl, .inr (by simp [go_sem, nints_cons, nints_nil])⟩) (fun _ => ?_)
        · simp [go_sem, nints_cons, nints_nil]
        · simp [go_sem, nints_cons, nints_nil]
        · simp [go_sem, nints_cons, nints_nil]
        simp (disch := omega) [go_sem, nints_cons, nints_nil]
        refine ⟨by omega, ?_⟩
        refine round_of (k + 1) (by omega) (by omega) (Le.mk [(0, some 0), (192, some 192)] [0, 192] ⟨rfl, rfl, rfl⟩ ?_ ?_ ?_) <;> simp [go_sem, nwS, netV, eb, el]
      · have hkl : k = n.sites.length := by omega
        subst hkl
        have hLk := hL n.sites.length
        have q2 := nput_obj (nwP1 n n.sites.length) [(n.subs.length : Int)] (by simp) (by omega) (by simp)
        have e20 : nwP1 n n.sites.length ++ putN [(n.subs.length : Int)] = nwP2 n 0 := by simp [nwP2]
        rw [e20] at q2
        simp (disch := omega) [go_sem]
        refine callK_ref q2 [(0, some 192)] [192] [1104] [] ?_ ?_ ?_ (.inl ⟨rfl, .inr (by simp [go_sem, nints_cons, nints_nil])⟩) (fun _ => ?_)
        · simp [go_sem, nints_cons, nints_nil]
        · simp [go_sem, nints_cons, nints_nil]
        · simp [go_sem, nints_cons, nints_nil]
        simp (disch := omega) [go_sem, nints_cons, nints_nil]
        refine awz_loop mixed (fun k : Nat => nwS n [(55, .int .i64 k), (54, .int .i64 n.subs.length), (53, .sl 2 (n.subs.map subV))] (nwP2 n k) 2048) (fun k => k ≤ n.subs.length) (fun k => n.subs.length - k) 0 ?_ ?_ ?_
        · omega
        · refine Le.mk [(0, some 0), (192, some 192)] [0, 192] ⟨rfl, rfl, rfl⟩ ?_ ?_ ?_ <;> simp [go_sem, nwS, netV]
        · intro k hk
          have hLk := hL k
          simp (disch := omega) [go_sem, nwS, netV]
          refine br_of (fun h => ?_) (fun h => ?_) <;> simp at h
          · have hg : nth (n.subs.map subV) k = subV n.subs[k] := nth_map h
            have hu := hW.us _ (List.getElem_mem h)
            have hA := nwP2_succ h
            have hLk1 := hL (k + 1)
            generalize n.subs[k] = x at *
            obtain ⟨x1, x2⟩ := x
            simp only at hu hA
            have hlA : (nwP2 n (k + 1)).length = (nwP2 n k).length + (putN [(x1.length : Int)]).length + (putN x1).length + (putN [x2]).length := by rw [hA]; simp only [List.length_append]
            have q3 := nput_obj (nwP2 n k) [(x1.length : Int)] (by simp) (by omega) (by simp)
            have q4 := nput_obj (nwP2 n k ++ putN [(x1.length : Int)]) x1 (fun y hy => (hu.2.1 y hy).1) (by rw [List.length_append]; omega) (by omega)
            have q5 := nput_obj (nwP2 n k ++ putN [(x1.length : Int)] ++ putN x1) [x2] (by simp; omega) (by simp only [List.length_append]; omega) (by simp)
            rw [← hA] at q5
            generalize nwP2 n k ++ putN [(x1.length : Int)] ++ putN x1 = Q2 at *
            generalize nwP2 n k ++ putN [(x1.length : Int)] = Q1 at *
            simp (disch := omega) [go_sem, h, hg, subV]
            refine callK_ref q3 [(0, some 192)] [192] [2192] [] ?_ ?_ ?_ (.inl ⟨rfl, .inr (by simp [go_sem, nints_cons, nints_nil])⟩) (fun _ => ?_)
            · simp [go_sem, nints_cons, nints_nil]
            · simp [go_sem, nints_cons, nints_nil]
            · simp [go_sem, nints_cons, nints_nil]
            simp (disch := omega) [go_sem, nints_cons, nints_nil]
            refine callK_ref q4 [(0, some 192)] [192] [] [] ?_ ?_ ?_ (.inl ⟨rfl, .inl rfl⟩) (fun _ => ?_)
            · simp [go_sem]
            · simp [go_sem]
            · simp [go_sem]
            simp (disch := omega) [go_sem]
            refine callK_ref q5 [(0, some 192)] [192] [2304] [] ?_ ?_ ?_ (.inl ⟨rfl, .inr (by simp [go_sem, nints_cons, nints_nil])⟩) (fun _ => ?_)
            · simp [go_sem, nints_cons, nints_nil]
            · simp [go_sem, nints_cons, nints_nil]
            · simp [go_sem, nints_cons, nints_nil]
            simp (disch := omega) [go_sem, nints_cons, nints_nil]
            refine ⟨.inl (by kernel_rfl), ?_⟩
            refine round_of (k + 1) (by omega) (by omega) (Le.mk [(0, some 0), (192, some 192)] [0, 192] ⟨rfl, rfl, rfl⟩ ?_ ?_ ?_) <;> simp [go_sem, nwS, netV]
          · have hkl : k = n.subs.length := by omega
            subst hkl
            have q6 := nput_obj (nwP2 n n.subs.length) [n.low, n.high, n.step, (n.weds.length : Int)] (by have a := hW.lo; have b := hW.hi; have c := hW.st; simp; omega) (by omega) (by simp)
            have e30 : nwP2 n n.subs.length ++ putN [n.low, n.high, n.step, (n.weds.length : Int)] = nwP3 n 0 := by simp [nwP3]
            rw [e30] at q6
            simp (disch := omega) [go_sem]
            refine callK_ref q6 [(0, some 192)] [192] [2224] [] ?_ ?_ ?_ (.inl ⟨rfl, .inr (by simp [go_sem, nints_cons, nints_nil])⟩) (fun _ => ?_)
            · simp [go_sem, nints_cons, nints_nil]
            · simp [go_sem, nints_cons, nints_nil]
            · simp [go_sem, nints_cons, nints_nil]
            simp (disch := omega) [go_sem, nints_cons, nints_nil]
            refine awz_loop mixed (fun k : Nat => nwS n [(88, .int .i64 k), (87, .int .i64 n.weds.length), (86, .sl 4 (n.weds.map wedV))] (nwP3 n k) 4096) (fun k => k ≤ n.weds.length) (fun k => n.weds.length - k) 0 ?_ ?_ ?_
            · omega
            · refine Le.mk [(0, some 0), (192, some 192)] [0, 192] ⟨rfl, rfl, rfl⟩ ?_ ?_ ?_ <;> simp [go_sem, nwS, netV]
            · intro k hk
              have hLk := hL k
              simp (disch := omega) [go_sem, nwS, netV]
              refine br_of (fun h => ?_) (fun h => ?_) <;> simp at h
              · have hg : nth (n.weds.map wedV) k = wedV n.weds[k] := nth_map h
                have hu := hW.ws _ (List.getElem_mem h)
                have hA := nwP3_succ h
                have hLk1 := hL (k + 1)
                generalize n.weds[k] = x at *
                obtain ⟨x1, x2, x3, x4⟩ := x
                simp only at hu hA
                have q3 := nput_obj (nwP3 n k) [x1, x2, x3, (x4.length : Int)] (by simp; omega) (by omega) (by simp)
                have hlA : (nwP3 n (k + 1)).length = (nwP3 n k).length + (putN [x1, x2, x3, (x4.length : Int)]).length + (putN x4).length := by rw [hA]; simp only [List.length_append]
                have q4 := nput_obj (nwP3 n k ++ putN [x1, x2, x3, (x4.length : Int)]) x4 (fun y hy => (hu.2.2.2.2 y hy).1) (by rw [List.length_append]; omega) (by omega)
                rw [← hA] at q4
                generalize nwP3 n k ++ putN [x1, x2, x3, (x4.length : Int)] = Q1 at *
                simp (disch := omega) [go_sem, h, hg, wedV]
                refine callK_ref q3 [(0, some 192)] [192] [4336] [] ?_ ?_ ?_ (.inl ⟨rfl, .inr (by simp [go_sem, nints_cons, nints_nil])⟩) (fun _ => ?_)
                · simp [go_sem, nints_cons, nints_nil]
                · simp [go_sem, nints_cons, nints_nil]
                · simp [go_sem, nints_cons, nints_nil]
                simp (disch := omega) [go_sem, nints_cons, nints_nil]
                refine callK_ref q4 [(0, some 192)] [192] [] [] ?_ ?_ ?_ (.inl ⟨rfl, .inl rfl⟩) (fun _ => ?_)
                · simp [go_sem]
                · simp [go_sem]
                · simp [go_sem]
                simp (disch := omega) [go_sem]
                refine ⟨.inl (by kernel_rfl), ?_⟩
                refine round_of (k + 1) (by omega) (by omega) (Le.mk [(0, some 0), (192, some 192)] [0, 192] ⟨rfl, rfl, rfl⟩ ?_ ?_ ?_) <;> simp [go_sem, nwS, netV]
              · have hkl : k = n.weds.length := by omega
                subst hkl
                have hL6 := (hL n.weds.length).2.2
                rw [nwP3_all] at hL6 ⊢
                have q7 := nsum_ref (insideN n)
                have ew : bts (insideN n) ++ bts (sumB (insideN n)) = bts (writeNB n) := by rw [← bts_app]; rfl
                have hs4 := sumB_len (insideN n)
                simp (disch := omega) [go_sem, hs4]
                refine callK_ref q7 [] [] [192] [] ?_ ?_ ?_ (.inl ⟨rfl, .inr (by simp [go_sem, hs4])⟩) (fun _ => ?_)
                · simp [go_sem, hs4]
                · simp [go_sem, hs4]
                · simp [go_sem, hs4]
                simp (disch := omega) [go_sem, hs4]
                refine ⟨by omega, ?_⟩
                rw [ew]
                exact argsLe_self (bts_pure _)
  · have e : netE n = [] := by unfold netE; rw [if_neg (by rw [netN_bad hOk]; decide)]
    rw [netN_bad hOk, e]
    simp (disch := omega) [go_sem, bts]
end Go.Proofs.YtdeionjkcmpnpaaGreatDoor
