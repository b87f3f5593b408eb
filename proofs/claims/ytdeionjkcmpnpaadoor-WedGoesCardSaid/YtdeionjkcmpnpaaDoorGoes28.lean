
/- The reference stoplineref28: errors, Groups, Cycles, Offsets; WedGoes. -/
import Derived.Test.YtdeionjkcmpnpaaDoorW28c
import Derived.Test.YtdeionjkcmpnpaaDoorRef25
import Derived.Test.YtdeionjkcmpnpaaDoorRefN
import Derived.Test.YtdeionjkcmpnpaaDoorGreat
set_option linter.unusedSimpArgs false
set_option linter.unusedVariables false
namespace Go.Proofs.YtdeionjkcmpnpaaDoor
open Go.AM Go.RowKit
set_option maxRecDepth 100000

theorem rr28may_spec (b : Bool × Int) : FnD Tryd.prog 134 [bondV b] (.bool (inM b.2)) := by
  unfold bondV
  refine fnD_of mixed Tryd.func134 rfl rfl (by simp [Tryd.ntmps134]) fun hwf E => ?_
  clear hwf
  simp (disch := omega) [Tryd.ntmps134, go_sem]
  simp [inM]
theorem r28bonded_spec (n : NetN) (l : List (Bool × Int)) : FnD Tryd.prog 81 [netV n, .sl 2 (bondsV l)] (.int .i64 (bondedC n l)) := by
  have hnv : netV n = .agg [.sl 12 (n.sites.map sitV), .sl 2 (n.subs.map subV), .sl 4 (n.weds.map wedV), .int .i64 n.low, .int .i64 n.high, .int .i64 n.step] := rfl
  have hc := r6check_spec n
  rw [hnv] at hc ⊢
  refine fnD_of mixed Tryd.func81 rfl rfl (by simp [Tryd.ntmps81]) fun hwf E => ?_
  simp (disch := omega) [go_sem] at hwf
  simp (disch := omega) [Tryd.ntmps81, go_sem]
  by_cases hOk : NetOk n
  · rw [netN_ok hOk] at hc
    refine callK_data hc [] (by simp [go_sem]) (.inl rfl) (by simp [go_sem]) (fun _ => ?_)
    simp (disch := omega) [go_sem]
    refine br_of (fun h1 => ?_) (fun h1 => ?_) <;> simp at h1
    · have e : bondedC n l = 4 := by unfold bondedC; rw [if_pos hOk, if_pos (by omega)]
      simp (disch := omega) [go_sem, e]
    · simp (disch := omega) [go_sem]
      refine awz_loop mixed (fun k : Nat => ⟨[(6, .int .i64 k), (1, .sl 2 (bondsV l))], [], 1024, [], 30, 0, []⟩) (fun k => k ≤ l.length ∧ ∀ j (h : j < l.length), j < k → inM l[j].2 = true) (fun k => l.length - k) 0 ?_ ?_ ?_
      · exact ⟨by omega, fun j h hj => by omega⟩
      · refine Le.mk [] [] ⟨rfl, rfl, rfl⟩ ?_ ?_ ?_ <;> simp [go_sem]
      · rintro k ⟨hk, hno⟩
        simp (disch := omega) [go_sem]
        refine br_of (fun h2 => ?_) (fun h2 => ?_) <;> simp at h2
        · have hkl : k < l.length := by omega
          have hb := nth_bonds hkl
          have hI : inM l[k].2 = true → ∀ j (h : j < l.length), j < k + 1 → inM l[j].2 = true := fun h3 j h hj => by
            by_cases e : j = k
            · subst e; exact h3
            · exact hno j h (by omega)
          have hM : inM l[k].2 = false → bondedC n l = 2 := fun h3 => by
            unfold bondedC
            rw [if_pos hOk, if_neg (by omega), if_pos]
            exact List.any_eq_true.2 ⟨l[k], List.getElem_mem hkl, by simp [h3]⟩
          have q := rr28may_spec l[k]
          generalize l[k] = x at *
          simp (disch := omega) [go_sem, hkl, hb, bondV]
          unfold bondV at q
          refine callK_bool q [] (by simp [go_sem]) (fun h3 => ?_) (fun h3 => ?_) <;> try simp [Nat.lt_irrefl] at h3
          · simp (disch := omega) [go_sem]
            refine round_of (k + 1) (⟨by omega, hI h3⟩) (by omega) (Le.mk [] [] ⟨rfl, rfl, rfl⟩ ?_ ?_ ?_) <;> simp [go_sem]
          · rw [hM h3]
            simp (disch := omega) [go_sem]
        · have e : bondedC n l = 0 := bondedC_of hOk (by omega) fun b hb => by
            obtain ⟨j, hj, rfl⟩ := List.getElem_of_mem hb
            exact hno j hj (by omega)
          rw [e]
          simp (disch := omega) [go_sem]
  · rw [netN_bad hOk] at hc
    have e : bondedC n l = 60 := by unfold bondedC; rw [if_neg hOk]
    rw [e]
    refine callK_data hc [] (by simp [go_sem]) (.inl rfl) (by simp [go_sem]) (fun _ => ?_)
    simp (disch := omega) [go_sem]
noncomputable def votedC (n : NetN) (votes : List (Int × Int × Int)) : Int := if votes.length ≠ n.weds.length then 4 else if votedOk n votes then 0 else 2
theorem r28voted_spec (n : NetN) (votes : List (Int × Int × Int)) (hn : NetOk n) : FnD Tryd.prog 87 [netV n, .sl 3 (votesV votes)] (.int .i64 (votedC n votes)) := by
  have hnv : netV n = .agg [.sl 12 (n.sites.map sitV), .sl 2 (n.subs.map subV), .sl 4 (n.weds.map wedV), .int .i64 n.low, .int .i64 n.high, .int .i64 n.step] := rfl
  have hvp := votes_pure votes
  have hvl := votes_len votes
  obtain ⟨b1, b2⟩ := net_small hn
  rw [hnv]
  refine fnD_of mixed Tryd.func87 rfl rfl (by simp [Tryd.ntmps87]) fun hwf E => ?_
  simp (disch := omega) [go_sem, hvp, hvl] at hwf
  simp (disch := omega) [Tryd.ntmps87, go_sem, hvp, hvl]
  refine br_of (fun h1 => ?_) (fun h1 => ?_) <;> simp at h1
  · have e : votedC n votes = 4 := by unfold votedC; rw [if_pos (by omega)]
    rw [e]
    simp (disch := omega) [go_sem, hvp, hvl]
  · simp (disch := omega) [go_sem, hvp, hvl]
    refine awz_loop mixed (fun k : Nat => ⟨[(5, .int .i64 k), (2, .ptr 0 1 0 0), (1, .sl 3 (votesV votes))], [(0, ⟨.box, 77, 6, [netV n]⟩)], 1024, [], 39, 0, []⟩) (fun k => k ≤ votes.length ∧ ∀ i, i < k → votedAt n votes i) (fun k => votes.length - k) 0 ?_ ?_ ?_
    · exact ⟨by omega, fun j h => by omega⟩
    · refine Le.mk [(0, some 0)] [0] ⟨rfl, rfl, rfl⟩ ?_ ?_ ?_ <;> simp [go_sem, hvp, hvl, netV]
    · rintro k ⟨hk, hno⟩
      simp (disch := omega) [go_sem, hvp, hvl, netV]
      refine br_of (fun h2 => ?_) (fun h2 => ?_) <;> simp at h2
      · have hkl : k < votes.length := by omega
        have hkw : k < n.weds.length := by omega
        have hv := nth_votes hkl
        have hw : nth (n.weds.map wedV) k = wedV n.weds[k] := nth_map hkw
        have hat : votedAt n votes k ↔ 0 ≤ votes[k].1 ∧ votes[k].1 < (n.weds[k].offsets.length : Int) := by simp [votedAt, wedAt, hkl, hkw]
        have hI : votedAt n votes k → ∀ i, i < k + 1 → votedAt n votes i := fun h3 j hj => by
          by_cases e : j = k
          · subst e; exact h3
          · exact hno j (by omega)
        have hM : ¬ votedAt n votes k → votedC n votes = 2 := fun h3 => by unfold votedC; rw [if_neg (by omega), if_neg (fun h4 => h3 (h4 k hkl))]
        generalize votes[k] = x at *
        generalize n.weds[k] = w at *
        obtain ⟨x1, x2, x3⟩ := x
        obtain ⟨w1, w2, w3, w4⟩ := w
        simp only at hat
        simp (disch := omega) [go_sem, hvp, hvl, hkl, hkw, hv, hw, voteV, wedV]
        refine ⟨.inl (by kernel_rfl), ?_⟩
        refine br_of (fun h3 => ?_) (fun h3 => ?_) <;> simp at h3
        · rw [hM (fun e => by rw [hat] at e; omega)]
          simp (disch := omega) [go_sem, hvp, hvl]
        · have hy := hI (hat.2 (by omega))
          simp (disch := omega) [go_sem, hvp, hvl]
          refine round_of (k + 1) (⟨by omega, hy⟩) (by omega) (Le.mk [(0, some 0)] [0] ⟨rfl, rfl, rfl⟩ ?_ ?_ ?_) <;> simp [go_sem, hvp, hvl, netV]
      · have e : votedC n votes = 0 := by unfold votedC; rw [if_neg (by omega), if_pos (show votedOk n votes from fun i hi => hno i (by omega))]
        rw [e]
        simp (disch := omega) [go_sem, hvp, hvl]
theorem r28cycled_spec (n : NetN) (cs : List Int) (hn : NetOk n) : FnD Tryd.prog 85 [netV n, .sl 1 (ints cs)] (.int .i64 (cycledC n cs)) := by
  have hnv : netV n = .agg [.sl 12 (n.sites.map sitV), .sl 2 (n.subs.map subV), .sl 4 (n.weds.map wedV), .int .i64 n.low, .int .i64 n.high, .int .i64 n.step] := rfl
  have q := fun c => one_spec n c hn.1
  obtain ⟨b1, b2⟩ := net_small hn
  rw [hnv] at q ⊢
  refine fnD_of mixed Tryd.func85 rfl rfl (by simp [Tryd.ntmps85]) fun hwf E => ?_
  simp (disch := omega) [go_sem] at hwf
  simp (disch := omega) [Tryd.ntmps85, go_sem]
  refine br_of (fun h1 => ?_) (fun h1 => ?_) <;> simp at h1
  · have e : cycledC n cs = 4 := by unfold cycledC; rw [if_pos (by omega)]
    simp (disch := omega) [go_sem, e]
  · simp (disch := omega) [go_sem]
    refine awz_loop mixed (fun k : Nat => ⟨[(5, .int .i64 k), (2, .ptr 0 1 0 0), (1, .sl 1 (ints cs))], [(0, ⟨.box, 77, 6, [netV n]⟩)], 1024, [], 25, 0, []⟩) (fun k => k ≤ cs.length ∧ ∀ j (h : j < cs.length), j < k → cs[j] ∈ cycN n (cycK n + 1)) (fun k => cs.length - k) 0 ?_ ?_ ?_
    · exact ⟨by omega, fun j h hj => by omega⟩
    · refine Le.mk [(0, some 0)] [0] ⟨rfl, rfl, rfl⟩ ?_ ?_ ?_ <;> simp [go_sem, netV]
    · rintro k ⟨hk, hno⟩
      simp (disch := omega) [go_sem, netV]
      refine br_of (fun h2 => ?_) (fun h2 => ?_) <;> simp at h2
      · have hkl : k < cs.length := by omega
        have hb := nth_ints hkl
        have hI : cs[k] ∈ cycN n (cycK n + 1) → ∀ j (h : j < cs.length), j < k + 1 → cs[j] ∈ cycN n (cycK n + 1) := fun h3 j h hj => by
          by_cases e : j = k
          · subst e; exact h3
          · exact hno j h (by omega)
        have hM : ¬ cs[k] ∈ cycN n (cycK n + 1) → cycledC n cs = 2 := fun h3 => by
          unfold cycledC
          rw [if_neg (by omega), if_pos]
          exact List.any_eq_true.2 ⟨cs[k], List.getElem_mem hkl, by simp [h3]⟩
        have q := q cs[k]
        generalize cs[k] = x at *
        simp (disch := omega) [go_sem, hkl, hb]
        refine callK_bool q [] (by simp [go_sem]) (fun h3 => ?_) (fun h3 => ?_) <;> try simp [inN] at h3
        · simp (disch := omega) [go_sem]
          refine ⟨.inl (by kernel_rfl), ?_⟩
          refine round_of (k + 1) (⟨by omega, hI h3⟩) (by omega) (Le.mk [(0, some 0)] [0] ⟨rfl, rfl, rfl⟩ ?_ ?_ ?_) <;> simp [go_sem, netV]
        · rw [hM h3]
          simp (disch := omega) [go_sem]
          exact .inl (by kernel_rfl)
      · have e : cycledC n cs = 0 := by
          unfold cycledC
          rw [if_neg (by omega), if_neg]
          rw [Bool.not_eq_true, List.any_eq_false]
          intro c hc
          obtain ⟨j, hj, rfl⟩ := List.getElem_of_mem hc
          simpa using hno j hj (by omega)
        rw [e]
        simp (disch := omega) [go_sem]
theorem rGroups_spec (n : NetN) (l : List (Bool × Int)) : FnD Tryd.prog 33 [netV n, .sl 2 (bondsV l)] (.tup [.sl 1 (ints (groupsL n l)), .int .i64 (bondedC n l)]) := by
  have hnv : netV n = .agg [.sl 12 (n.sites.map sitV), .sl 2 (n.subs.map subV), .sl 4 (n.weds.map wedV), .int .i64 n.low, .int .i64 n.high, .int .i64 n.step] := rfl
  have q1 := r28bonded_spec n l
  have q2 := fun a b => parted_spec n l a b
  have hok := bonded_ok (n := n) (l := l)
  have e1 : bondedC n l = 0 → groupsL n l = groupsN n l := fun h => by unfold groupsL; rw [if_pos h]
  have e2 : bondedC n l ≠ 0 → groupsL n l = [] := fun h => by unfold groupsL; rw [if_neg h]
  generalize bondedC n l = e at *
  rw [hnv] at q1 q2 ⊢
  refine fnD_of mixed Tryd.func33 rfl rfl (by simp [Tryd.ntmps33]) fun hwf E => ?_
  clear hwf
  simp (disch := omega) [Tryd.ntmps33, go_sem]
  refine callK_data q1 [] (by simp [go_sem]) (.inl rfl) (by simp [go_sem]) (fun _ => ?_)
  simp (disch := omega) [go_sem]
  refine br_of (fun h => ?_) (fun h => ?_) <;> simp at h
  · rw [e2 h]
    simp (disch := omega) [go_sem, ints_nil28]
  · obtain ⟨a, b, _⟩ := hok h
    rw [e1 h, h]
    simp (disch := omega) [go_sem]
    refine callK_data (q2 a b) [] (by simp [go_sem]) (.inl rfl) (by simp [go_sem]) (fun _ => ?_)
    simp (disch := omega) [go_sem]
theorem rCycles_spec (n : NetN) (l : List (Bool × Int)) (cs : List Int) : FnD Tryd.prog 35 [netV n, .sl 2 (bondsV l), .sl 1 (ints cs)] (.tup [.sl 1 (ints (cyclesL n l cs)), .int .i64 (cyclesC n l cs)]) := by
  have hnv : netV n = .agg [.sl 12 (n.sites.map sitV), .sl 2 (n.subs.map subV), .sl 4 (n.weds.map wedV), .int .i64 n.low, .int .i64 n.high, .int .i64 n.step] := rfl
  have q1 := r28bonded_spec n l
  have q2 := fun a => r28cycled_spec n cs a
  have q3 := fun a b c d => rcommon_spec n l cs a b c d
  have hok := bonded_ok (n := n) (l := l)
  have hcy := cycled_ok (n := n) (cs := cs)
  have eC : cyclesC n l cs = if bondedC n l = 0 then cycledC n cs else bondedC n l := rfl
  have e1 : cyclesC n l cs = 0 → cyclesL n l cs = commonG (groupsN n l) cs := fun h => by unfold cyclesL; rw [if_pos h]
  have e2 : cyclesC n l cs ≠ 0 → cyclesL n l cs = [] := fun h => by unfold cyclesL; rw [if_neg h]
  have hat := fun (hn : NetOk n) i => hn.1.at_bound (i := i)
  generalize cyclesC n l cs = ce at *
  generalize bondedC n l = e at *
  generalize cycledC n cs = f at *
  rw [hnv] at q1 q2 q3 ⊢
  refine fnD_of mixed Tryd.func35 rfl rfl (by simp [Tryd.ntmps35]) fun hwf E => ?_
  clear hwf
  simp (disch := omega) [Tryd.ntmps35, go_sem]
  refine callK_data q1 [] (by simp [go_sem]) (.inl rfl) (by simp [go_sem]) (fun _ => ?_)
  simp (disch := omega) [go_sem]
  refine br_of (fun h => ?_) (fun h => ?_) <;> simp at h
  · rw [if_pos h] at eC
    obtain ⟨a, b, _⟩ := hok h
    simp (disch := omega) [go_sem]
    refine callK_data (q2 a) [] (by simp [go_sem]) (.inl rfl) (by simp [go_sem]) (fun _ => ?_)
    simp (disch := omega) [go_sem]
    refine br_of (fun h2 => ?_) (fun h2 => ?_) <;> simp at h2
    · rw [e2 (by omega), eC]
      simp (disch := omega) [go_sem, ints_nil28]
    · obtain ⟨c1, c2⟩ := hcy h2
      rw [e1 (by omega), eC, h2]
      have hge : ∀ c ∈ cs, 1 ≤ c := fun c hc => by
        have := c2 c hc
        rw [cycN, List.mem_map] at this
        obtain ⟨i, hi, rfl⟩ := this
        exact (hat a i (by have : i < cycK n + 1 := by simpa using hi
                           omega)).1
      simp (disch := omega) [go_sem]
      refine callK_data (q3 a b c1 hge) [] (by simp [go_sem]) (.inl rfl) (by simp [go_sem]) (fun _ => ?_)
      simp (disch := omega) [go_sem]
  · rw [if_neg h] at eC
    simp (disch := omega) [go_sem]
    refine br_of (fun h2 => ?_) (fun h2 => ?_) <;> simp at h2
    · rw [e2 (by omega), eC]
      simp (disch := omega) [go_sem, ints_nil28]
    · omega
theorem rOffsets_spec (n : NetN) (l : List (Bool × Int)) (votes : List (Int × Int × Int)) (cs : List Int) : FnD Tryd.prog 37 [netV n, .sl 2 (bondsV l), .sl 3 (votesV votes), .sl 1 (ints cs)] (.tup [.sl 1 (ints (offsL n l votes cs)), .int .i64 (offsC n l votes cs)]) := by
  have hnv : netV n = .agg [.sl 12 (n.sites.map sitV), .sl 2 (n.subs.map subV), .sl 4 (n.weds.map wedV), .int .i64 n.low, .int .i64 n.high, .int .i64 n.step] := rfl
  have q1 := r28bonded_spec n l
  have q2 := fun a => r28voted_spec n votes a
  have q3 := fun a => r28cycled_spec n cs a
  have q4 := fun a => begins_spec n l votes cs a
  have hok := bonded_ok (n := n) (l := l)
  have eC : offsC n l votes cs = if bondedC n l = 0 then (if votedC n votes = 0 then cycledC n cs else votedC n votes) else bondedC n l := by
    unfold offsC votedC
    by_cases h1 : bondedC n l = 0
    · rw [if_pos h1, if_pos h1]
      by_cases h2 : votes.length ≠ n.weds.length
      · rw [if_pos h2, if_pos h2, if_neg (by decide)]
      · rw [if_neg h2, if_neg h2]
        by_cases h3 : votedOk n votes
        · rw [if_pos h3, if_pos h3, if_pos rfl]
        · rw [if_neg h3, if_neg h3, if_neg (by decide)]
    · rw [if_neg h1, if_neg h1]
  have e1 : offsC n l votes cs = 0 → offsL n l votes cs = beginN n l votes (commonG (groupsN n l) cs) (groupsN n l) := fun h => by unfold offsL; rw [if_pos h]
  have e2 : offsC n l votes cs ≠ 0 → offsL n l votes cs = [] := fun h => by unfold offsL; rw [if_neg h]
  have hvp := votes_pure votes
  generalize offsC n l votes cs = ce at *
  generalize bondedC n l = e at *
  generalize cycledC n cs = f at *
  generalize votedC n votes = g at *
  rw [hnv] at q1 q2 q3 q4 ⊢
  refine fnD_of mixed Tryd.func37 rfl rfl (by simp [Tryd.ntmps37]) fun hwf E => ?_
  clear hwf
  simp (disch := omega) [Tryd.ntmps37, go_sem, hvp]
  refine callK_data q1 [] (by simp [go_sem, hvp]) (.inl rfl) (by simp [go_sem, hvp]) (fun _ => ?_)
  simp (disch := omega) [go_sem, hvp]
  refine br_of (fun h => ?_) (fun h => ?_) <;> simp at h
  · rw [if_pos h] at eC
    obtain ⟨a, b, _⟩ := hok h
    simp (disch := omega) [go_sem, hvp]
    refine callK_data (q2 a) [] (by simp [go_sem, hvp]) (.inl rfl) (by simp [go_sem, hvp]) (fun _ => ?_)
    simp (disch := omega) [go_sem, hvp]
    refine br_of (fun h2 => ?_) (fun h2 => ?_) <;> simp at h2
    · rw [if_pos h2] at eC
      simp (disch := omega) [go_sem, hvp]
      refine callK_data (q3 a) [] (by simp [go_sem, hvp]) (.inl rfl) (by simp [go_sem, hvp]) (fun _ => ?_)
      simp (disch := omega) [go_sem, hvp]
      refine br_of (fun h3 => ?_) (fun h3 => ?_) <;> simp at h3
      · rw [e2 (by omega), eC]
        simp (disch := omega) [go_sem, hvp, ints_nil28]
      · have h0 : ce = 0 := by omega
        rw [e1 h0, h0]
        simp (disch := omega) [go_sem, hvp]
        refine callK_data (q4 h0) [] (by simp [go_sem, hvp]) (.inl rfl) (by simp [go_sem, hvp]) (fun _ => ?_)
        simp (disch := omega) [go_sem, hvp]
    · rw [if_neg h2] at eC
      simp (disch := omega) [go_sem, hvp]
      refine br_of (fun h3 => ?_) (fun h3 => ?_) <;> simp at h3
      · rw [e2 (by omega), eC]
        simp (disch := omega) [go_sem, hvp, ints_nil28]
      · omega
  · rw [if_neg h] at eC
    simp (disch := omega) [go_sem, hvp]
    refine br_of (fun h3 => ?_) (fun h3 => ?_) <;> simp at h3
    · omega
    · simp (disch := omega) [go_sem, hvp]
      refine br_of (fun h2 => ?_) (fun h2 => ?_) <;> simp at h2
      · rw [e2 (by omega), eC]
        simp (disch := omega) [go_sem, hvp, ints_nil28]
      · omega
theorem r28same_spec (l : List Int) : FnD Tryd.prog 38 [.sl 1 (ints l), .sl 1 (ints l)] (.bool true) := by
  refine fnD_of mixed Tryd.func38 rfl rfl (by simp [Tryd.ntmps38]) fun hwf E => ?_
  simp (disch := omega) [go_sem] at hwf
  simp (disch := omega) [Tryd.ntmps38, go_sem]
  refine awz_loop mixed (fun k : Nat => ⟨[(5, .int .i64 k), (1, .sl 1 (ints l)), (0, .sl 1 (ints l))], [], 1024, [], 26, 0, []⟩) (fun k => k ≤ l.length) (fun k => l.length - k) 0 ?_ ?_ ?_
  · omega
  · refine Le.mk [] [] ⟨rfl, rfl, rfl⟩ ?_ ?_ ?_ <;> simp [go_sem]
  · intro k hk
    simp (disch := omega) [go_sem]
    refine br_of (fun h => ?_) (fun h => ?_) <;> simp at h
    · have hg := nth_ints h
      simp (disch := omega) [go_sem, h, hg]
      refine ⟨.inl (by kernel_rfl), ?_⟩
      refine round_of (k + 1) (by omega) (by omega) (Le.mk [] [] ⟨rfl, rfl, rfl⟩ ?_ ?_ ?_) <;> simp [go_sem]
    · simp (disch := omega) [go_sem]

/-! wed.Cycles by reference: its answer is new memory -/
theorem Cycles_ref (n : NetN) (l : List (Bool × Int)) (cs : List Int) : FnR Tryd.prog 34 [] [netV n, .sl 2 (bondsV l), .sl 1 (ints cs)] [⟨.arr, 3, 1, ints (cyclesL n l cs)⟩] (.tup [.obj 0 (cyclesL n l cs).length, .int .i64 (cyclesC n l cs)]) tabG := by
  have hc := bonded_spec n l
  have hcy := fun a => cycled_spec n cs a
  have hcm := fun a b c => common_spec n l cs a b c
  have hok := bonded_ok (n := n) (l := l)
  have hcok := cycled_ok (n := n) (cs := cs)
  have eC : cyclesC n l cs = if bondedC n l = 0 then cycledC n cs else bondedC n l := rfl
  have e1 : cyclesC n l cs = 0 → cyclesL n l cs = commonG (groupsN n l) cs := fun h => by unfold cyclesL; rw [if_pos h]
  have e2 : cyclesC n l cs ≠ 0 → cyclesL n l cs = [] := fun h => by unfold cyclesL; rw [if_neg h]
  have hgl := commonG_len (groupsN n l) cs
  have hnv : netV n = .agg [.sl 12 (n.sites.map sitV), .sl 2 (n.subs.map subV), .sl 4 (n.weds.map wedV), .int .i64 n.low, .int .i64 n.high, .int .i64 n.step] := rfl
  generalize cyclesC n l cs = ce at *
  generalize bondedC n l = e at *
  generalize cycledC n cs = f at *
  rw [hnv] at hc hcy hcm ⊢
  refine fnR_of mixed Tryd.func34 rfl rfl (by simp [Tryd.ntmps34]) (by simp) fun hwf E => ?_
  clear hwf
  simp (disch := omega) [Tryd.ntmps34, go_sem]
  refine callK_data hc [] (by simp [go_sem]) (.inl rfl) (by simp [go_sem]) (fun _ => ?_) (by simp [tabG, go_sem])
  simp (disch := omega) [go_sem]
  refine br_of (fun h => ?_) (fun h => ?_) <;> simp at h
  · rw [if_neg h] at eC
    rw [e2 (by omega), eC]
    simp (disch := omega) [go_sem]
    refine Le.mk [(0, none)] [] ⟨rfl, rfl, rfl⟩ ?_ ?_ ?_ <;> simp [go_sem, ints_nil28]
  · rw [if_pos h] at eC
    obtain ⟨a, b, _⟩ := hok h
    simp (disch := omega) [go_sem]
    refine callK_data (hcy a) [] (by simp [go_sem]) (.inl rfl) (by simp [go_sem]) (fun _ => ?_) (by simp [tabG, go_sem])
    simp (disch := omega) [go_sem]
    refine br_of (fun h2 => ?_) (fun h2 => ?_) <;> simp at h2
    · rw [e2 (by omega), eC]
      simp (disch := omega) [go_sem]
      refine Le.mk [(0, none)] [] ⟨rfl, rfl, rfl⟩ ?_ ?_ ?_ <;> simp [go_sem, ints_nil28]
    · obtain ⟨c1, c2⟩ := hcok h2
      rw [e1 (by omega), eC, h2, hgl]
      simp (disch := omega) [go_sem]
      refine callK_ref (hcm a b c1) [] [] [] [] ?_ ?_ ?_ (.inl ⟨rfl, .inl rfl⟩) (fun _ => ?_)
      · simp [go_sem]
      · simp [go_sem]
      · simp [go_sem]
      simp (disch := omega) [go_sem]
      refine Le.mk [(0, some 304)] [304] ⟨rfl, rfl, rfl⟩ ?_ ?_ ?_ <;> simp [go_sem]
theorem cyclesL_len (n : NetN) (l : List (Bool × Int)) (cs : List Int) : (cyclesL n l cs).length ≤ 6 := by
  unfold cyclesL
  split
  · next h =>
    obtain ⟨h1, h2⟩ := cyclesC_ok h
    rw [commonG_len, (cycled_ok h2).1]
    exact (net_small (bonded_ok h1).1).1
  · simp
set_option maxHeartbeats 4000000 in
theorem wgoes_spec (n : NetN) (l : List (Bool × Int)) (votes : List (Int × Int × Int)) (cs : List Int) : FnD Tryd.prog 5 [netV n, .sl 2 (bondsV l), .sl 3 (votesV votes), .sl 1 (ints cs)] (.bool true) tabG := by
  have hnv : netV n = .agg [.sl 12 (n.sites.map sitV), .sl 2 (n.subs.map subV), .sl 4 (n.weds.map wedV), .int .i64 n.low, .int .i64 n.high, .int .i64 n.step] := rfl
  have q0 := greatN_spec n
  have q1 := Groups_spec n l
  have q2 := rGroups_spec n l
  have q3 := Cycles_ref n l cs
  have q4 := rCycles_spec n l cs
  have q5 := Offsets_spec n l votes cs
  have q6 := rOffsets_spec n l votes cs
  have s1 := r28same_spec (groupsL n l)
  have s2 := r28same_spec (cyclesL n l cs)
  have s3 := r28same_spec (offsL n l votes cs)
  have s4 := r28same_spec cs
  have hvp := votes_pure votes
  have hvl := votes_len votes
  have hcl := cyclesL_len n l cs
  generalize groupsL n l = a at *
  generalize cyclesL n l cs = c at *
  generalize offsL n l votes cs = x at *
  generalize bondedC n l = e1 at *
  generalize cyclesC n l cs = e2 at *
  generalize offsC n l votes cs = e3 at *
  generalize greatN n = g at *
  rw [hnv] at q0 q1 q2 q3 q4 q5 q6 ⊢
  refine fnD_of mixed Tryd.func5 rfl rfl (by simp [Tryd.ntmps5]) fun hwf E => ?_
  simp (disch := omega) [go_sem, hvp, hvl] at hwf
  simp (disch := omega) [Tryd.ntmps5, go_sem, hvp, hvl]
  refine callK_bool q0 [] (by simp [go_sem, hvp, hvl]) (fun h0 => ?_) (fun h0 => ?_) <;> try simp [inN] at h0
  · simp (disch := omega) [go_sem, hvp, hvl]
  · simp (disch := omega) [go_sem, hvp, hvl]
    refine br_of (fun h1 => ?_) (fun h1 => ?_) <;> simp at h1
    · simp (disch := omega) [go_sem, hvp, hvl]
    · simp (disch := omega) [go_sem, hvp, hvl]
      refine ⟨by omega, ?_⟩
      refine callK_data q1 [] (by simp [go_sem, hvp, hvl]) (.inl rfl) (by simp [go_sem, hvp, hvl]) (fun _ => ?_) (by simp [tabG, go_sem])
      simp (disch := omega) [go_sem, hvp, hvl]
      refine callK_data q2 [] (by simp [go_sem, hvp, hvl]) (.inl rfl) (by simp [go_sem, hvp, hvl]) (fun _ => ?_)
      simp (disch := omega) [go_sem, hvp, hvl]
      refine callK_ref q3 [] [] [352] [] ?_ ?_ ?_ (.inl ⟨rfl, .inr (by simp [go_sem, hvp, hvl])⟩) (fun _ => ?_) (by simp [tabG, go_sem])
      · simp [go_sem, hvp, hvl]
      · simp [go_sem, hvp, hvl]
      · simp [go_sem, hvp, hvl]
      simp (disch := omega) [go_sem, hvp, hvl]
      refine callK_data q4 [] (by simp [go_sem, hvp, hvl]) (.inl rfl) (by simp [go_sem, hvp, hvl]) (fun _ => ?_)
      simp (disch := omega) [go_sem, hvp, hvl]
      refine callK_frz q5 [352] [(352, ⟨.ro, 3, 1, ints cs⟩)] (by simp [go_sem, hvp, hvl]) (by simp [go_sem, hvp, hvl]) (by simp [go_sem, hvp, hvl]) (fun _ => ?_) (by simp [tabG, go_sem])
      simp (disch := omega) [go_sem, hvp, hvl]
      refine callK_data q6 [] (by simp [go_sem, hvp, hvl]) (.inl rfl) (by simp [go_sem, hvp, hvl]) (fun _ => ?_)
      simp (disch := omega) [go_sem, hvp, hvl]
      refine callK_data s1 [] (by simp [go_sem, hvp, hvl]) (.inl rfl) (by simp [go_sem, hvp, hvl]) (fun _ => ?_)
      simp (disch := omega) [go_sem, hvp, hvl]
      refine callK_data s2 [688] (by simp [go_sem, hvp, hvl]) (.inr (by simp [go_sem, hvp, hvl])) (by simp [go_sem, hvp, hvl]) (fun _ => ?_)
      simp (disch := omega) [go_sem, hvp, hvl]
      refine callK_data s3 [] (by simp [go_sem, hvp, hvl]) (.inl rfl) (by simp [go_sem, hvp, hvl]) (fun _ => ?_)
      simp (disch := omega) [go_sem, hvp, hvl]
      refine awz_loop mixed (fun p : Nat × List Int => ⟨[(23, .int .i64 p.1), (22, .bool true), (14, .obj 688 c.length), (9, .sl 1 (ints cs)), (3, .sl 1 (ints cs))], [(688, ⟨.arr, 3, 1, ints p.2⟩)], 2048, [], 129, 0, tabG⟩) (fun p => p.1 ≤ c.length ∧ p.2.length = c.length) (fun p => c.length - p.1) (0, c) ⟨by simp only; omega, rfl⟩ ?_ ?_
      · refine Le.mk [(688, some 688)] [688] ⟨rfl, rfl, rfl⟩ ?_ ?_ ?_ <;> simp [go_sem, hvp, hvl]
      · rintro ⟨k, d⟩ ⟨hk, hd⟩
        simp only at hk hd
        simp (disch := omega) [go_sem, hvp, hvl, hd]
        refine br_of (fun h => ?_) (fun h => ?_) <;> simp at h
        · have hk2 : k < d.length := by omega
          have hn := nth_ints hk2
          have hs := ints_set28 d k (-77)
          simp (disch := omega) [go_sem, hvp, hvl, hd, hn, hk2]
          refine ⟨by omega, ?_⟩
          refine round_of (k + 1, d.set k (-77)) ⟨by simp only; omega, by simp [hd]⟩ (by simp only; omega) (Le.mk [(688, some 688)] [688] ⟨rfl, rfl, rfl⟩ ?_ ?_ ?_) <;> simp [go_sem, hs]
        · simp (disch := omega) [go_sem, hvp, hvl]
          refine callK_data s4 [] (by simp [go_sem, hvp, hvl]) (.inl rfl) (by simp [go_sem, hvp, hvl]) (fun _ => ?_)
          simp (disch := omega) [go_sem, hvp, hvl]
end Go.Proofs.YtdeionjkcmpnpaaDoor
