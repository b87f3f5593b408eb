
/- The reference stoplineref28: when cycles begin. -/
import Derived.Test.YtdeionjkcmpnpaaDoorW28b
set_option linter.unusedSimpArgs false
set_option linter.unusedVariables false
namespace Go.Proofs.YtdeionjkcmpnpaaDoor
open Go.AM Go.RowKit
set_option maxRecDepth 100000

def tk28 (n : NetN) (g : List Int) (k : Nat) : List Bool := (List.range n.subs.length).map fun i => if i < k then decide (g.getD i 0 = (i : Int)) else false
theorem tk28_len (n : NetN) (g : List Int) (k : Nat) : (tk28 n g k).length = n.subs.length := by simp [tk28]
theorem tk28_set {n : NetN} {g : List Int} {k : Nat} (h : k < n.subs.length) : (tk28 n g k).set k (decide (g.getD k 0 = (k : Int))) = tk28 n g (k + 1) := by
  apply List.ext_getElem?
  intro i
  rw [List.getElem?_set]
  by_cases e : k = i
  · subst e
    simp [tk28, h]
  · rw [if_neg e]
    by_cases hi : i < n.subs.length
    · simp only [tk28, List.getElem?_map, List.getElem?_range hi, Option.map_some]
      by_cases h1 : i < k
      · rw [if_pos h1, if_pos (by omega)]
      · rw [if_neg h1, if_neg (by omega)]
    · simp [tk28, hi]
theorem tk28_zero (n : NetN) (g : List Int) : bls (tk28 n g 0) = List.replicate n.subs.length (.bool false) := by
  apply List.ext_getElem?
  intro i
  by_cases h : i < n.subs.length <;> simp [tk28, bls, h, List.getElem?_replicate]
theorem tk28_end {n : NetN} {g : List Int} (h : g.length = n.subs.length) : tk28 n g n.subs.length = kn0 g := by
  unfold tk28 kn0
  rw [h]
  apply List.map_congr_left
  intro i hi
  rw [if_pos (by simpa using hi)]
theorem ints_rep0 (n : Nat) : ints (List.replicate n 0) = List.replicate n (.int .i64 0) := by simp [ints]
theorem ints_set28 (l : List Int) (k : Nat) (v : Int) : (ints l).set k (.int .i64 v) = ints (l.set k v) := by simp [ints, List.map_set]
theorem nth_ints28 {l : List Int} {k : Nat} (d : Int) (h : k < l.length) : nth (ints l) k = .int .i64 (l.getD k d) := by rw [nth_ints h]; simp [h]
def bg28 (n : NetN) (l : List (Bool × Int)) (votes : List (Int × Int × Int)) (all : List Int) (sl : List (Nat × V)) (s : BgSt) (nx : Nat) : St :=
  ⟨sl ++ [(12, .obj 304 n.subs.length), (11, .obj 224 n.subs.length), (9, .sl 1 (ints all)), (4, .ptr 0 1 0 0), (2, .sl 3 (votesV votes)), (1, .sl 2 (bondsV l))],
    [(304, ⟨.arr, 4, 1, bls s.kn⟩), (224, ⟨.arr, 3, 1, ints s.out⟩), (0, ⟨.box, 77, 6, [netV n]⟩)], nx, [], 154, 0, []⟩
set_option maxHeartbeats 4000000 in
theorem begins_spec (n : NetN) (l : List (Bool × Int)) (votes : List (Int × Int × Int)) (cs : List Int) (h0 : offsC n l votes cs = 0) :
    FnD Tryd.prog 88 [netV n, .sl 2 (bondsV l), .sl 3 (votesV votes), .sl 1 (ints cs)] (.sl 1 (ints (beginN n l votes (commonG (groupsN n l) cs) (groupsN n l)))) := by
  obtain ⟨o1, o2, o3, o4⟩ := offsC_ok h0
  obtain ⟨hn, hl, _⟩ := bonded_ok o1
  obtain ⟨c1, c2⟩ := cycled_ok o4
  have hcb : ∀ c ∈ cs, 1 ≤ c ∧ c ≤ 1048576 := fun c hc => by
    have := c2 c hc
    rw [cycN, List.mem_map] at this
    obtain ⟨i, hi, rfl⟩ := this
    have hi' : i ≤ cycK n := by simpa [Nat.lt_succ_iff] using hi
    have b1 := (hn.1.at_bound (i := i) (by omega)).1
    have b2 := (hn.1.at (i := i)).2 hi'
    have b3 := hn.1.2.1.2
    omega
  have hall : ∀ i, 1 ≤ (commonG (groupsN n l) cs).getD i 1 ∧ (commonG (groupsN n l) cs).getD i 1 ≤ 1048576 := fun i => commonG_bound hcb i
  have hoff : ∀ i, i < n.weds.length → ∃ k : Nat, (votes.getD i (0, 0, 0)).1 = k ∧ k < (wedAt n i).offsets.length ∧ 0 ≤ (wedAt n i).offsets.getD k 0 ∧ (wedAt n i).offsets.getD k 0 ≤ 1048576 := fun i hi => by
    have hv := o3 i (by omega)
    obtain ⟨k, hk⟩ := Int.eq_ofNat_of_zero_le hv.1
    have hv2 := hv.2
    rw [hk] at hv2
    have hw : wedAt n i = n.weds[i] := by simp [wedAt, hi]
    have hm := (hn.2.2.2.2.2 _ (List.getElem_mem hi)).2.2.2.2.2
    have hlo := hn.1.1
    refine ⟨k, hk, by omega, ?_⟩
    have hk2 : k < (wedAt n i).offsets.length := by omega
    rw [show (wedAt n i).offsets.getD k 0 = (wedAt n i).offsets[k] by simp [hk2]]
    have := hm _ (by rw [← hw]; exact List.getElem_mem hk2)
    omega
  have hv0 : ∀ i, 0 ≤ ((wedAt n i).offsets.getD ((votes.getD i (0, 0, 0)).1).toNat 0) := fun i => by
    by_cases hi : i < n.weds.length
    · obtain ⟨k, hk, _, h2, _⟩ := hoff i hi
      rw [hk, Int.toNat_natCast]; exact h2
    · have : wedAt n i = ⟨0, 0, 0, []⟩ := by simp [wedAt, hi]
      rw [this]; simp
  have hgl := (groups_ok (l := l) hn).len
  have hal : (commonG (groupsN n l) cs).length = n.subs.length := by rw [commonG_len, c1]
  have hjn : ∀ i, i < n.weds.length → tog l i = true → (commonG (groupsN n l) cs).getD (aAt n i) 1 = (commonG (groupsN n l) cs).getD (bAt n i) 1 := fun i hi ht => by
    have hw := wed_lt hn hi
    exact com_same (by omega) (by omega) (groups_joined hn hi ht)
  have hin := fun k => rbK_in hn hv0 hall hjn (bg0_in hgl hall) k
  have hpi : ∀ k j, j ≤ n.weds.length → BgOk n (bgPass n l votes (commonG (groupsN n l) cs) ⟨(rbK n l votes (commonG (groupsN n l) cs) (bg0 n (groupsN n l)) k).out, (rbK n l votes (commonG (groupsN n l) cs) (bg0 n (groupsN n l)) k).kn, false⟩ j) := fun k j hj =>
    (bgPass_ok (l := l) (s := ⟨(rbK n l votes (commonG (groupsN n l) cs) (bg0 n (groupsN n l)) k).out, (rbK n l votes (commonG (groupsN n l) cs) (bg0 n (groupsN n l)) k).kn, false⟩) hn hv0 hall ⟨(hin k).ok.ol, (hin k).ok.kl, (hin k).ok.le⟩ rfl j hj).1
  have hit := begin_iter (l := l) hn hv0 hall
  have q1 := rcommon_spec n l cs hn hl c1 (fun c hc => (hcb c hc).1)
  have q2 := parted_spec n l hn hl
  have hke := tk28_end hgl
  obtain ⟨b1, b2⟩ := net_small hn
  rw [hit]
  clear hit hin hv0 h0 o1 o4
  generalize commonG (groupsN n l) cs = all at *
  generalize groupsN n l = g at *
  have hnv : netV n = .agg [.sl 12 (n.sites.map sitV), .sl 2 (n.subs.map subV), .sl 4 (n.weds.map wedV), .int .i64 n.low, .int .i64 n.high, .int .i64 n.step] := rfl
  have hvp := votes_pure votes
  have hvl := votes_len votes
  rw [hnv] at q1 q2 ⊢
  refine fnD_of mixed Tryd.func88 rfl rfl (by simp [Tryd.ntmps88]) fun hwf E => ?_
  clear hwf
  simp (disch := omega) [Tryd.ntmps88, go_sem, hvp, hvl, hgl]
  refine callK_data q1 [] (by simp [go_sem, hvp, hvl, hgl]) (.inl rfl) (by simp [go_sem, hvp, hvl, hgl]) (fun _ => ?_)
  simp (disch := omega) [go_sem, hvp, hvl, hgl]
  refine callK_data q2 [] (by simp [go_sem, hvp, hvl, hgl]) (.inl rfl) (by simp [go_sem, hvp, hvl, hgl]) (fun _ => ?_)
  simp (disch := omega) [go_sem, hvp, hvl, hgl]
  refine ⟨by omega, ⟨by omega, ?_⟩⟩
  have hz1 := (tk28_zero n g).symm
  have hz2 := (ints_rep0 n.subs.length).symm
  refine awz_loop mixed (fun k : Nat => ⟨[(13, .int .i64 k), (12, .obj 304 n.subs.length), (11, .obj 224 n.subs.length), (10, .sl 1 (ints g)), (9, .sl 1 (ints all)), (4, .ptr 0 1 0 0), (2, .sl 3 (votesV votes)), (1, .sl 2 (bondsV l))], [(304, ⟨.arr, 4, 1, bls (tk28 n g k)⟩), (224, ⟨.arr, 3, 1, ints (List.replicate n.subs.length 0)⟩), (0, ⟨.box, 77, 6, [netV n]⟩)], 1024, [], 154, 0, []⟩) (fun k => k ≤ n.subs.length) (fun k => n.subs.length - k) 0 ?_ ?_ ?_
  · omega
  · refine Le.mk [(0, some 0), (224, some 224), (304, some 304)] [0, 224, 304] ⟨rfl, rfl, rfl⟩ ?_ ?_ ?_ <;> simp [go_sem, hvp, hvl, hgl, hz1, hz2, netV]
  · intro k hk
    have hkl := tk28_len n g k
    simp (disch := omega) [go_sem, hvp, hvl, hgl, netV, hkl]
    refine br_of (fun h => ?_) (fun h => ?_) <;> simp at h
    · have hst := tk28_set (g := g) h
      have nk := nth_bls (l := tk28 n g k) (k := k) (by omega)
      have ng := nth_ints28 (l := g) (k := k) 0 (by omega)
      have hkg : k < g.length := by omega
      generalize g.getD k 0 = G at *
      have hq : (G == (k : Int)) = decide (G = (k : Int)) := by rw [Bool.eq_iff_iff]; simp
      have hsb := bls_set (tk28 n g k) k (G == (k : Int))
      rw [← hq] at hst
      simp (disch := omega) [go_sem, hvp, hvl, hgl, h, nk, ng, hkg]
      refine ⟨by omega, ⟨by omega, by omega⟩, ?_⟩
      refine round_of (k + 1) (by omega) (by omega) (Le.mk [(0, some 0), (224, some 224), (304, some 304)] [0, 224, 304] ⟨rfl, rfl, rfl⟩ ?_ ?_ ?_) <;> simp [go_sem, hvp, hvl, hgl, netV, hsb, hst]
    · have hkn : k = n.subs.length := by omega
      subst hkn
      rw [hke]
      simp (disch := omega) [go_sem, hvp, hvl, hgl]
      refine awz_loop mixed (fun k : Nat => bg28 n l votes all [(14, .int .i64 k)] (rbK n l votes all (bg0 n g) k) 2048) (fun k => k ≤ n.subs.length) (fun k => n.subs.length - k) 0 ?_ ?_ ?_
      · omega
      · have e0 : rbK n l votes all (bg0 n g) 0 = ⟨List.replicate n.subs.length 0, kn0 g, true⟩ := rfl
        refine Le.mk [(0, some 0), (224, some 224), (304, some 304)] [0, 224, 304] ⟨rfl, rfl, rfl⟩ ?_ ?_ ?_ <;> simp [go_sem, hvp, hvl, hgl, bg28, netV, e0]
      · intro k hk
        have hpi := hpi k
        have hs1 : rbK n l votes all (bg0 n g) (k + 1) = bgPass n l votes all ⟨(rbK n l votes all (bg0 n g) k).out, (rbK n l votes all (bg0 n g) k).kn, false⟩ n.weds.length := rfl
        generalize hS : rbK n l votes all (bg0 n g) k = S at *
        simp (disch := omega) [go_sem, hvp, hvl, hgl, bg28, netV]
        refine br_of (fun h => ?_) (fun h => ?_) <;> simp at h
        · simp (disch := omega) [go_sem, hvp, hvl, hgl]
          refine awz_loop mixed (fun j : Nat => bg28 n l votes all [(15, .int .i64 j), (14, .int .i64 k)] (bgPass n l votes all ⟨S.out, S.kn, false⟩ j) 4096) (fun j => j ≤ n.weds.length) (fun j => n.weds.length - j) 0 ?_ ?_ ?_
          · omega
          · have e0 : bgPass n l votes all ⟨S.out, S.kn, false⟩ 0 = ⟨S.out, S.kn, false⟩ := rfl
            refine Le.mk [(0, some 0), (224, some 224), (304, some 304)] [0, 224, 304] ⟨rfl, rfl, rfl⟩ ?_ ?_ ?_ <;> simp [go_sem, hvp, hvl, hgl, bg28, netV, e0]
          · intro j hj
            have hT := hpi j hj
            have hs := bgPass_succ n l votes all ⟨S.out, S.kn, false⟩ j
            obtain ⟨t1, t2, t3⟩ := hT
            simp (disch := omega) [go_sem, hvp, hvl, hgl, bg28, netV, t1, t2]
            refine br_of (fun h2 => ?_) (fun h2 => ?_) <;> simp at h2
            · obtain ⟨A, B, eA, eB, e1, e2, hA, hB⟩ := wed_ab hn h2
              have hw : nth (n.weds.map wedV) j = wedV n.weds[j] := nth_map h2
              have hjl : j < l.length := by omega
              have hjv : j < votes.length := by omega
              have hb := nth_bonds hjl
              have hv := nth_votes hjv
              have ht : tog l j = l[j].1 := by simp [tog, hjl]
              have hcc := hjn j h2
              obtain ⟨kv, v1, v2, v3, v4⟩ := hoff j h2
              have hwa : wedAt n j = n.weds[j] := by simp [wedAt, h2]
              rw [show votes.getD j (0, 0, 0) = votes[j] by simp [hjv]] at v1
              unfold bgStep at hs
              rw [show votes.getD j (0, 0, 0) = votes[j] by simp [hjv], v1, Int.toNat_natCast, ht, e1, e2] at hs
              rw [ht, e1, e2] at hcc
              rw [hwa] at hs v2 v3 v4
              generalize bgPass n l votes all ⟨S.out, S.kn, false⟩ j = T at *
              have nA := nth_bls (l := T.kn) (k := A) (by omega)
              have nB := nth_bls (l := T.kn) (k := B) (by omega)
              have oA := nth_ints28 (l := T.out) (k := A) 0 (by omega)
              have oB := nth_ints28 (l := T.out) (k := B) 0 (by omega)
              have cA := nth_ints28 (l := all) (k := A) 1 (by omega)
              have cB := nth_ints28 (l := all) (k := B) 1 (by omega)
              have iA := hall A
              have iB := hall B
              have pA := t3 A
              have pB := t3 B
              have s1 := bls_set T.kn A true
              have s2 := bls_set (T.kn.set A true) B true
              have nB2 : ∃ b, nth (bls (T.kn.set A true)) B = .bool b := ⟨_, nth_bls (by simp; omega)⟩
              obtain ⟨bB2, nB2⟩ := nB2
              have s3 := fun v => ints_set28 T.out B v
              have s4 := fun v => ints_set28 T.out A v
              have no := nth_ints28 (l := n.weds[j].offsets) (k := kv) 0 v2
              generalize T.kn.getD A false = bA at *
              generalize T.kn.getD B false = bB at *
              generalize T.out.getD A 0 = xA at *
              generalize T.out.getD B 0 = xB at *
              generalize all.getD A 1 = yA at *
              generalize all.getD B 1 = yB at *
              generalize n.weds[j].offsets.getD kv 0 = by_ at *
              generalize n.weds[j] = w at *
              obtain ⟨wa, wb, wv, wo⟩ := w
              simp only at eA eB v2 no
              generalize votes[j] = vj at *
              obtain ⟨v5, v6, v7⟩ := vj
              simp only at v1
              generalize l[j] = lj at *
              obtain ⟨t, m⟩ := lj
              simp only at hs hcc
              have hA1 : A < T.kn.length := by omega
              have hB1 : B < T.kn.length := by omega
              have hA2 : A < T.out.length := by omega
              have hB2 : B < T.out.length := by omega
              have hA3 : A < all.length := by omega
              have hB3 : B < all.length := by omega
              cases t
              · rw [if_pos (.inl rfl)] at hs
                simp (disch := omega) [go_sem, hvp, hvl, hgl, t1, t2, nA, nB, oA, oB, cA, cB, hA, hB, hA1, hB1, hA2, hB2, hA3, hB3, hjl, hjv, v2, no, hw, hb, hv, wedV, bondV, voteV, eA, eB, v1, h2]
                refine ⟨.inl (by kernel_rfl), ?_⟩
                refine round_of (j + 1) (by omega) (by omega) (Le.mk [(0, some 0), (224, some 224), (304, some 304)] [0, 224, 304] ⟨rfl, rfl, rfl⟩ ?_ ?_ ?_) <;> simp [go_sem, hvp, hvl, hgl, t1, t2, nA, nB, oA, oB, cA, cB, hA, hB, hA1, hB1, hA2, hB2, hA3, hB3, hjl, hjv, v2, no, hw, hb, hv, wedV, bondV, voteV, eA, eB, v1, bg28, netV, hs]
              · cases bA <;> cases bB
                · rw [if_pos (.inr rfl)] at hs
                  simp (disch := omega) [go_sem, hvp, hvl, hgl, t1, t2, nA, nB, oA, oB, cA, cB, hA, hB, hA1, hB1, hA2, hB2, hA3, hB3, hjl, hjv, v2, no, hw, hb, hv, wedV, bondV, voteV, eA, eB, v1, h2]
                  refine ⟨.inl (by kernel_rfl), ?_⟩
                  refine round_of (j + 1) (by omega) (by omega) (Le.mk [(0, some 0), (224, some 224), (304, some 304)] [0, 224, 304] ⟨rfl, rfl, rfl⟩ ?_ ?_ ?_) <;> simp [go_sem, hvp, hvl, hgl, t1, t2, nA, nB, oA, oB, cA, cB, hA, hB, hA1, hB1, hA2, hB2, hA3, hB3, hjl, hjv, v2, no, hw, hb, hv, wedV, bondV, voteV, eA, eB, v1, bg28, netV, hs]
                · rw [if_neg (by simp)] at hs
                  simp only [if_true, Bool.false_eq_true, if_false] at hs
                  simp (disch := omega) [go_sem, hvp, hvl, hgl, t1, t2, nA, nB, oA, oB, cA, cB, hA, hB, hA1, hB1, hA2, hB2, hA3, hB3, hjl, hjv, v2, no, hw, hb, hv, wedV, bondV, voteV, eA, eB, v1, h2]
                  refine ⟨.inl (by kernel_rfl), .inl (by kernel_rfl), ?_⟩
                  rw [← mod_two pB.1 v3 iA.1] at hs
                  have m1 := Int.tmod_lt_of_pos (xB - by_) (show 0 < yA by omega)
                  have m2 := Int.lt_tmod_of_pos (xB - by_) (show 0 < yA by omega)
                  have s4 := s4 (((xB - by_).tmod yA + yA).tmod yA)
                  simp (disch := omega) [go_sem, hvp, hvl, hgl, t1, t2, nA, nB, oA, oB, cA, cB, hA, hB, hA1, hB1, hA2, hB2, hA3, hB3, hjl, hjv, v2, no, hw, hb, hv, wedV, bondV, voteV, eA, eB, v1, s1, s2, s3, s4, nB2]
                  refine ⟨by omega, .inl (by kernel_rfl), ?_⟩
                  refine round_of (j + 1) (by omega) (by omega) (Le.mk [(0, some 0), (224, some 224), (304, some 304)] [0, 224, 304] ⟨rfl, rfl, rfl⟩ ?_ ?_ ?_) <;> simp [go_sem, hvp, hvl, hgl, t1, t2, nA, nB, oA, oB, cA, cB, hA, hB, hA1, hB1, hA2, hB2, hA3, hB3, hjl, hjv, v2, no, hw, hb, hv, wedV, bondV, voteV, eA, eB, v1, bg28, netV, hs]
                · rw [if_neg (by simp)] at hs
                  simp only [if_true, Bool.false_eq_true, if_false] at hs
                  simp (disch := omega) [go_sem, hvp, hvl, hgl, t1, t2, nA, nB, oA, oB, cA, cB, hA, hB, hA1, hB1, hA2, hB2, hA3, hB3, hjl, hjv, v2, no, hw, hb, hv, wedV, bondV, voteV, eA, eB, v1, h2]
                  refine ⟨.inl (by kernel_rfl), .inl (by kernel_rfl), ?_⟩
                  have s3 := s3 ((xA + by_).tmod yB)
                  rw [hcc rfl] at hs
                  simp (disch := omega) [go_sem, hvp, hvl, hgl, t1, t2, nA, nB, oA, oB, cA, cB, hA, hB, hA1, hB1, hA2, hB2, hA3, hB3, hjl, hjv, v2, no, hw, hb, hv, wedV, bondV, voteV, eA, eB, v1, s1, s2, s3, s4, nB2]
                  refine ⟨by omega, .inl (by kernel_rfl), ?_⟩
                  refine round_of (j + 1) (by omega) (by omega) (Le.mk [(0, some 0), (224, some 224), (304, some 304)] [0, 224, 304] ⟨rfl, rfl, rfl⟩ ?_ ?_ ?_) <;> simp [go_sem, hvp, hvl, hgl, t1, t2, nA, nB, oA, oB, cA, cB, hA, hB, hA1, hB1, hA2, hB2, hA3, hB3, hjl, hjv, v2, no, hw, hb, hv, wedV, bondV, voteV, eA, eB, v1, bg28, netV, hs]
                · rw [if_pos (.inr rfl)] at hs
                  simp (disch := omega) [go_sem, hvp, hvl, hgl, t1, t2, nA, nB, oA, oB, cA, cB, hA, hB, hA1, hB1, hA2, hB2, hA3, hB3, hjl, hjv, v2, no, hw, hb, hv, wedV, bondV, voteV, eA, eB, v1, h2]
                  refine ⟨.inl (by kernel_rfl), ?_⟩
                  refine round_of (j + 1) (by omega) (by omega) (Le.mk [(0, some 0), (224, some 224), (304, some 304)] [0, 224, 304] ⟨rfl, rfl, rfl⟩ ?_ ?_ ?_) <;> simp [go_sem, hvp, hvl, hgl, t1, t2, nA, nB, oA, oB, cA, cB, hA, hB, hA1, hB1, hA2, hB2, hA3, hB3, hjl, hjv, v2, no, hw, hb, hv, wedV, bondV, voteV, eA, eB, v1, bg28, netV, hs]
            · have hjw : j = n.weds.length := by omega
              subst hjw
              simp (disch := omega) [go_sem, hvp, hvl, hgl]
              refine round_of (k + 1) (by omega) (by omega) (Le.mk [(0, some 0), (224, some 224), (304, some 304)] [0, 224, 304] ⟨rfl, rfl, rfl⟩ ?_ ?_ ?_) <;> simp [go_sem, hvp, hvl, hgl, bg28, netV, hs1]
        · have hks : k = n.subs.length := by omega
          subst hks
          have h0 := (hpi 0 (by omega)).ol
          have h1 : (bgPass n l votes all ⟨S.out, S.kn, false⟩ 0).out = S.out := rfl
          rw [h1] at h0
          rw [hS]
          simp (disch := omega) [go_sem, hvp, hvl, hgl, h0]
          exact argsLe_self (ints_pure _)
end Go.Proofs.YtdeionjkcmpnpaaDoor
