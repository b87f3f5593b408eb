/- The statement WedParts: the walk. -/
import Derived.Test.YtiibccoaopjoiaaDoorWedL
import Derived.Test.YtiibccoaopjoiaaDoorAlive28
import Derived.Test.YtiibccoaopjoiaaDoorGreat
set_option linter.unusedSimpArgs false
set_option linter.unusedVariables false
namespace Go.Proofs.YtiibccoaopjoiaaDoor
open Go.AM Go.RowKit
set_option maxRecDepth 100000

def someK (l : List (Bool × Int)) (k : Nat) : Bool := (List.range k).any (tog l)
theorem someK_succ (l : List (Bool × Int)) (k : Nat) : someK l (k + 1) = (someK l k || tog l k) := by unfold someK; rw [List.range_succ]; simp
def hasK (g c cs : List Int) (i k : Nat) : Bool := (List.range k).any fun j => decide (g.getD j 0 = g.getD i 0) && decide (cs.getD j 0 = c.getD i 1)
theorem hasK_succ (g c cs : List Int) (i k : Nat) : hasK g c cs i (k + 1) = (hasK g c cs i k || (decide (g.getD k 0 = g.getD i 0) && decide (cs.getD k 0 = c.getD i 1))) := by unfold hasK; rw [List.range_succ]; simp
def pa28 (n : NetN) (cs g c o : List Int) (sl : List (Nat × V)) (nx : Nat) : St :=
  ⟨sl ++ [(14, .sl 1 (ints o)), (12, .sl 1 (ints c)), (10, .sl 1 (ints g)), (4, .ptr 0 1 0 0), (3, .sl 1 (ints cs))], [(0, ⟨.box, 85, 6, [netV n]⟩)], nx, [], 298, 0, tabG⟩
set_option maxHeartbeats 8000000 in
theorem wparts_spec (n : NetN) (l : List (Bool × Int)) (votes : List (Int × Int × Int)) (cs : List Int) :
    FnD Tryd.prog 12 [netV n, .sl 2 (bondsV l), .sl 3 (votesV votes), .sl 1 (ints cs)] (.bool true) tabG := by
  have hp1 := sits_pure n.sites
  have hp2 := subs_pure n.subs
  have hp3 := weds_pure n.weds
  have hpb := bonds_pure l
  have hpv := votes_pure votes
  have hpc := ints_pure cs
  have hg := greatN_spec n
  have q1 := Groups_spec n l
  have q2 := Cycles_spec n l cs
  have q3 := Offsets_spec n l votes cs
  have hnv : netV n = .agg [.sl 12 (n.sites.map sitV), .sl 2 (n.subs.map subV), .sl 4 (n.weds.map wedV), .int .i64 n.low, .int .i64 n.high, .int .i64 n.step] := rfl
  rw [hnv] at hg q1 q2 q3 ⊢
  have hpg := ints_pure (groupsL n l)
  have hpy := ints_pure (cyclesL n l cs)
  have hpo := ints_pure (offsL n l votes cs)
  refine fnD_of mixed Tryd.func12 rfl rfl (by simp [Tryd.ntmps12]) fun hwf E => ?_
  simp (disch := omega) [go_sem, bonds_len, votes_len, ints_len] at hwf
  simp (disch := omega) [Tryd.ntmps12, go_sem]
  refine callK_data alive28_spec [] (by simp [go_sem]) (.inl rfl) (by simp [go_sem]) (fun _ => ?_) (by simp [tabG, go_sem])
  simp (disch := omega) [go_sem]
  refine callK_data hg [] (by simp [go_sem, hp1, hp2, hp3]) (.inl rfl) (by simp [go_sem]) (fun _ => ?_)
  simp (disch := omega) [go_sem, bonds_len, votes_len, ints_len]
  refine br_of (fun h1 => ?_) (fun h1 => ?_)
  · simp (disch := omega) [go_sem]
  · simp (disch := omega) [go_sem]
    refine callK_data q1 [] (by simp [go_sem, hp1, hp2, hp3, hpb]) (.inl rfl) (by simp [go_sem, hpg]) (fun _ => ?_) (by simp [tabG, go_sem])
    simp (disch := omega) [go_sem]
    refine callK_data q2 [] (by simp [go_sem, hp1, hp2, hp3, hpb, hpc]) (.inl rfl) (by simp [go_sem, hpy]) (fun _ => ?_) (by simp [tabG, go_sem])
    simp (disch := omega) [go_sem]
    refine callK_data q3 [] (by simp [go_sem, hp1, hp2, hp3, hpb, hpc, hpv]) (.inl rfl) (by simp [go_sem, hpo]) (fun _ => ?_) (by simp [tabG, go_sem])
    simp (disch := omega) [go_sem]
    refine br_of (fun h2 => ?_) (fun h2 => ?_)
    · simp (disch := omega) [go_sem]
    · simp at h2
      obtain ⟨⟨e1, e2⟩, e3⟩ := h2
      obtain ⟨hn, hl, _⟩ := bonded_ok e1
      have hP := parts_ok e3
      rw [show groupsL n l = groupsN n l by unfold groupsL; rw [if_pos e1]] at hpg ⊢
      rw [show cyclesL n l cs = commonG (groupsN n l) cs by unfold cyclesL; rw [if_pos e2]] at hpy ⊢
      rw [show offsL n l votes cs = beginN n l votes (commonG (groupsN n l) cs) (groupsN n l) by unfold offsL; rw [if_pos e3]] at hpo ⊢
      generalize beginN n l votes (commonG (groupsN n l) cs) (groupsN n l) = o at *
      generalize commonG (groupsN n l) cs = c at *
      generalize groupsN n l = g at *
      simp (disch := omega) [go_sem]
      refine awz_loop mixed (fun k : Nat => pa28 n cs g c o [(17, .int .i64 k), (16, .bool (someK l k)), (1, .sl 2 (bondsV l))] 2048)
        (fun k => k ≤ n.weds.length) (fun k => n.weds.length - k) 0 (by omega) ?_ ?_
      · refine Le.mk [(0, some 0)] [0] ⟨rfl, rfl, rfl⟩ ?_ ?_ ?_ <;> simp [go_sem, pa28, netV, hp1, hp2, hp3, hpb, hpc, hpg, hpy, hpo, someK]
      · intro k hk
        simp (disch := omega) [go_sem, pa28, netV]
        refine br_of (fun h => ?_) (fun h => ?_) <;> simp at h
        · have hgw : nth (n.weds.map wedV) k = wedV n.weds[k] := nth_map h
          have hkl : k < l.length := by omega
          have hgb := nth_bonds hkl
          have hss := someK_succ l k
          have hto : tog l k = l[k].1 := by simp [tog, hkl]
          have hj := hP.joined k h
          have hw := hn.2.2.2.2.2 _ (List.getElem_mem h)
          obtain ⟨w1, w2, w3, _⟩ := hw
          have ea : aAt n k = n.weds[k].a.toNat := by simp [aAt, h]
          have eb : bAt n k = n.weds[k].b.toNat := by simp [bAt, h]
          have hgl := hP.gl
          have hcl := hP.cl
          have ha1 : n.weds[k].a.toNat < g.length := by omega
          have hb1 : n.weds[k].b.toNat < g.length := by omega
          have ha2 : n.weds[k].a.toNat < c.length := by omega
          have hb2 : n.weds[k].b.toNat < c.length := by omega
          have nga := nth_ints ha1
          have ngb := nth_ints hb1
          have nca := nth_ints ha2
          have ncb := nth_ints hb2
          rw [ea, eb, hto] at hj
          rw [hto] at hss
          simp only [List.getD_eq_getElem?_getD, List.getElem?_eq_getElem, ha1, hb1, ha2, hb2, Option.getD_some] at hj
          generalize n.weds[k] = w at *
          generalize l[k] = b at *
          obtain ⟨wa, wb, wv, wo⟩ := w
          obtain ⟨bt, bm⟩ := b
          simp only at *
          simp (disch := omega) [go_sem, hgw, wedV, hgb, bondV, bonds_len, ints_len, nga, ngb, nca, ncb]
          refine ⟨h, fun _ => hkl, hkl, fun _ => by omega, fun _ => by omega, fun _ => by omega, fun _ => by omega, fun _ _ => by omega, fun _ _ => by omega, fun _ _ => by omega, fun _ _ => by omega, .inl (by kernel_rfl), ?_⟩
          refine br_of (fun h2 => ?_) (fun h2 => ?_)
          · exfalso
            simp at h2
            obtain ⟨j1, j2⟩ := hj h2.1
            rcases h2.2 with h3 | h3
            · exact h3 j1
            · exact h3 j2
          · simp (disch := omega) [go_sem]
            refine round_of (k + 1) (by omega) (by omega) (Le.mk [(0, some 0)] [0] ⟨rfl, rfl, rfl⟩ ?_ ?_ ?_) <;> simp [go_sem, pa28, netV, hp1, hp2, hp3, hpb, hpc, hpg, hpy, hpo, hss]
        · have hkw : k = n.weds.length := by omega
          subst hkw
          simp (disch := omega) [go_sem]
          have hsm : someK l n.weds.length = false → ∀ i, tog l i = false := fun he i => by
            by_cases hi : i < n.weds.length
            · have := List.any_eq_false.1 he i (by simpa using hi)
              simpa using this
            · have : l[i]? = none := List.getElem?_eq_none (by omega)
              simp [tog, this]
          generalize someK l n.weds.length = some1 at *
          have hgl := hP.gl
          have hcl := hP.cl
          have hol := hP.ol
          have hsl := hP.sl
          have hs6 : n.subs.length ≤ 6 := hn.2.2.1.1.2
          refine awz_loop mixed (fun k : Nat => pa28 n cs g c o [(19, .int .i64 k), (16, .bool some1)] 4096)
            (fun k => k ≤ g.length) (fun k => g.length - k) 0 (by omega) ?_ ?_
          · refine Le.mk [(0, some 0)] [0] ⟨rfl, rfl, rfl⟩ ?_ ?_ ?_ <;> simp [go_sem, pa28, netV, hp1, hp2, hp3, hpb, hpc, hpg, hpy, hpo]
          · intro k hk
            simp (disch := omega) [go_sem, pa28, netV, ints_len]
            refine br_of (fun h => ?_) (fun h => ?_) <;> simp at h
            · have hgr := hP.gr k (by omega)
              have hog := hP.og k (by omega)
              have hal := fun h => hP.alone h k (by omega)
              have hmo := fun j hj => hP.most k j (by omega) hj
              obtain ⟨jh, jh1, jh2, jh3⟩ := hP.has k (by omega)
              have e1 : g.getD k 0 = g[k] := by simp [h]
              have e2 : c.getD k 1 = c[k]'(by omega) := by simp [show k < c.length by omega]
              have e3 : o.getD k 0 = o[k]'(by omega) := by simp [show k < o.length by omega]
              have e4 : cs.getD k 0 = cs[k]'(by omega) := by simp [show k < cs.length by omega]
              have hkk : g[k].toNat < g.length := by rw [e1] at hgr; omega
              have e5 : g.getD g[k].toNat 0 = g[g[k].toNat] := by simp [hkk]
              have n1 := nth_ints h
              have n2 := nth_ints (l := c) (k := k) (by omega)
              have n3 := nth_ints (l := o) (k := k) (by omega)
              have n4 := nth_ints (l := cs) (k := k) (by omega)
              have n5 := nth_ints hkk
              rw [e1, e5] at hgr
              rw [e1, e2, e3] at hog
              rw [e1, e2, e4] at hal
              rw [e1, e2] at hmo
              rw [e1] at jh2
              rw [e2] at jh3
              simp (disch := omega) [go_sem, ints_len, n1, n2, n3, n4, n5]
              refine ⟨h, fun _ => h, fun _ _ => h, fun _ _ => by omega, fun _ _ => by omega, fun _ _ => h, fun _ _ _ => by omega, fun _ _ _ _ => by omega, fun _ _ _ _ => by omega, fun _ _ _ _ _ => h, fun _ _ _ _ _ _ => by omega, fun _ _ _ _ _ _ _ => h, fun _ _ _ _ _ _ _ _ => by omega, fun _ _ _ _ _ _ _ _ => by omega, fun a1 a2 a3 a4 a5 a6 => ⟨⟨⟨⟨⟨a1, a2⟩, a3⟩, a4⟩, a5⟩, (Classical.em (g[k] = (k : Int))).elim (fun e => .inr (a6 e)) .inl⟩, .inl (by kernel_rfl), ?_⟩
              refine br_of (fun h2 => ?_) (fun h2 => ?_)
              · exfalso
                simp at h2
                rcases h2 with h2 | ⟨h2, h3⟩
                · have := hgr.2.2
                  have := hog.2.2
                  rcases h2 with ((((h2 | h2) | h2) | h2) | h2) | h2
                  · omega
                  · omega
                  · exact h2 hgr.2.2
                  · omega
                  · omega
                  · exact h2.2 (hog.2.2 h2.1)
                · have := hal (hsm h2)
                  rcases h3 with h3 | h3
                  · exact h3 this.1
                  · exact h3 this.2
              · simp (disch := omega) [go_sem]
                refine awz_loop mixed (fun m : Nat => pa28 n cs g c o [(21, .int .i64 m), (20, .bool (hasK g c cs k m)), (19, .int .i64 k), (16, .bool some1)] 8192)
                  (fun m => m ≤ g.length) (fun m => g.length - m) 0 (by omega) ?_ ?_
                · refine Le.mk [(0, some 0)] [0] ⟨rfl, rfl, rfl⟩ ?_ ?_ ?_ <;> simp [go_sem, pa28, netV, hp1, hp2, hp3, hpb, hpc, hpg, hpy, hpo, hasK]
                · intro m hm
                  simp (disch := omega) [go_sem, pa28, netV, ints_len]
                  refine br_of (fun h5 => ?_) (fun h5 => ?_) <;> simp at h5
                  · have m1 := nth_ints h5
                    have m2 := nth_ints (l := c) (k := m) (by omega)
                    have m4 := nth_ints (l := cs) (k := m) (by omega)
                    have hmm := hmo m (by omega)
                    have hks := hasK_succ g c cs k m
                    have f1 : g.getD m 0 = g[m] := by simp [h5]
                    have f2 : c.getD m 1 = c[m]'(by omega) := by simp [show m < c.length by omega]
                    have f4 : cs.getD m 0 = cs[m]'(by omega) := by simp [show m < cs.length by omega]
                    rw [f1, f2, f4] at hmm
                    rw [f1, f4, e1, e2] at hks
                    simp (disch := omega) [go_sem, ints_len, n1, n2, m1, m2, m4]
                    refine ⟨h5, h, fun _ => by omega, fun _ => by omega, fun _ _ => by omega, fun _ _ => by omega, .inl (by kernel_rfl), ?_⟩
                    refine br_of (fun h6 => ?_) (fun h6 => ?_)
                    · exfalso
                      simp at h6
                      obtain ⟨y1, y2⟩ := hmm h6.1
                      rcases h6.2 with h7 | h7
                      · omega
                      · exact h7 y2
                    · clear h6
                      simp (disch := omega) [go_sem, ints_len, n1, n2, m1, m2, m4]
                      have hqd : (cs[m]'(by omega) == c[k]'(by omega)) = decide (cs[m]'(by omega) = c[k]'(by omega)) := rfl
                      refine ⟨fun _ => h5, fun _ => h, fun _ _ => by omega, fun _ _ => by omega, .inl (by kernel_rfl), round_of (m + 1) (by omega) (by omega) (Le.mk [(0, some 0)] [0] ⟨rfl, rfl, rfl⟩ ?_ ?_ ?_)⟩ <;> simp [go_sem, pa28, netV, hp1, hp2, hp3, hpb, hpc, hpg, hpy, hpo, hks, hqd]
                  · have hml : m = g.length := by omega
                    subst hml
                    have hh : hasK g c cs k g.length = true := List.any_eq_true.2 ⟨jh, by rw [List.mem_range]; omega, by rw [e1, e2, jh2, jh3]; simp⟩
                    simp (disch := omega) [go_sem, hh]
                    refine round_of (k + 1) (by omega) (by omega) (Le.mk [(0, some 0)] [0] ⟨rfl, rfl, rfl⟩ ?_ ?_ ?_) <;> simp [go_sem, pa28, netV, hp1, hp2, hp3, hpb, hpc, hpg, hpy, hpo]
            · have hkw : k = g.length := by omega
              subst hkw
              simp (disch := omega) [go_sem, ints_len]
              omega
end Go.Proofs.YtiibccoaopjoiaaDoor
