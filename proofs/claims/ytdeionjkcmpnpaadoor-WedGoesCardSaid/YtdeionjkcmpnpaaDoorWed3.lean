
/- The layer wed: when cycles begin. -/
import Derived.Test.YtdeionjkcmpnpaaDoorWedO
set_option linter.unusedSimpArgs false
set_option linter.unusedVariables false
namespace Go.Proofs.YtdeionjkcmpnpaaDoor
open Go.AM Go.RowKit
set_option maxRecDepth 100000

def votesV (votes : List (Int × Int × Int)) : List V := votes.map voteV
theorem votes_pure (l : List (Int × Int × Int)) : pures (votesV l) := pures_map _ (fun u => by simp [voteV, go_sem]) l
theorem votes_len (l : List (Int × Int × Int)) : (votesV l).length = l.length := by simp [votesV]
theorem nth_votes {l : List (Int × Int × Int)} {k : Nat} (h : k < l.length) : nth (votesV l) k = voteV l[k] := nth_map h
def votedAt (n : NetN) (votes : List (Int × Int × Int)) (i : Nat) : Prop := 0 ≤ (votes.getD i (0, 0, 0)).1 ∧ (votes.getD i (0, 0, 0)).1 < ((wedAt n i).offsets.length : Int)
def votedOk (n : NetN) (votes : List (Int × Int × Int)) : Prop := ∀ i, i < votes.length → votedAt n votes i
noncomputable instance (n : NetN) (votes : List (Int × Int × Int)) : Decidable (votedOk n votes) := Classical.propDecidable _
noncomputable def offsC (n : NetN) (l : List (Bool × Int)) (votes : List (Int × Int × Int)) (cs : List Int) : Int :=
  if bondedC n l = 0 then if votes.length ≠ n.weds.length then 4 else if votedOk n votes then cycledC n cs else 2 else bondedC n l
noncomputable def offsL (n : NetN) (l : List (Bool × Int)) (votes : List (Int × Int × Int)) (cs : List Int) : List Int :=
  if offsC n l votes cs = 0 then beginN n l votes (commonG (groupsN n l) cs) (groupsN n l) else []
theorem offsC_ok {n : NetN} {l : List (Bool × Int)} {votes : List (Int × Int × Int)} {cs : List Int} (h : offsC n l votes cs = 0) : bondedC n l = 0 ∧ votes.length = n.weds.length ∧ votedOk n votes ∧ cycledC n cs = 0 := by
  unfold offsC at h
  by_cases h1 : bondedC n l = 0
  · rw [if_pos h1] at h
    by_cases h2 : votes.length = n.weds.length
    · rw [if_neg (by simpa using h2)] at h
      by_cases h3 : votedOk n votes
      · rw [if_pos h3] at h; exact ⟨h1, h2, h3, h⟩
      · rw [if_neg h3] at h; omega
    · rw [if_pos h2] at h; omega
  · rw [if_neg h1] at h; exact absurd h h1
theorem comK_bound {g cs : List Int} (h : ∀ c ∈ cs, 1 ≤ c ∧ c ≤ 1048576) {i : Nat} (hi : i < cs.length) : ∀ k, k ≤ cs.length → 1 ≤ comK g cs i k ∧ comK g cs i k ≤ 1048576
  | 0, _ => by
    have := h _ (List.getElem_mem hi)
    simp [comK, hi]; omega
  | k + 1, hk => by
    have ih := comK_bound h hi k (by omega) (g := g)
    have hkl : k < cs.length := by omega
    have := h _ (List.getElem_mem hkl)
    rw [comK_succ]
    simp only [List.getD_eq_getElem?_getD, List.getElem?_eq_getElem hkl, Option.getD_some]
    split
    · unfold maxI; split <;> omega
    · exact ih
theorem commonG_at {g cs : List Int} {i : Nat} (hi : i < cs.length) : (commonG g cs).getD i 1 = comK g cs i cs.length := by
  simp [commonG, comL, hi]
theorem commonG_bound {g cs : List Int} (h : ∀ c ∈ cs, 1 ≤ c ∧ c ≤ 1048576) (i : Nat) : 1 ≤ (commonG g cs).getD i 1 ∧ (commonG g cs).getD i 1 ≤ 1048576 := by
  by_cases hi : i < cs.length
  · rw [commonG_at hi]; exact comK_bound h hi _ (Nat.le_refl _)
  · simp [commonG, comL, hi]
theorem commonG_len (g cs : List Int) : (commonG g cs).length = cs.length := by simp [commonG, comL]
theorem km_pure (kn : List Bool) : pures (kmV kn) := by unfold kmV; exact pures_map _ (fun u => by simp [go_sem]) _
theorem kn0_next {g : List Int} {k : Nat} (h : k < g.length) : mput (.int .i64 (k : Int)) (.bool (g[k] == (k : Int))) (kmV ((kn0 g).take k)) = some (kmV ((kn0 g).take (k + 1))) := by
  have hl : ((kn0 g).take k).length = k := by simp [kn0]; omega
  have hk : k < (kn0 g).length := by simp [kn0]; omega
  have hn := new_km ((kn0 g).take k) (g[k] == (k : Int))
  rw [hl] at hn
  rw [hn, List.take_succ_eq_append_getElem hk]
  congr 3
  simp only [kn0, List.getElem_map, List.getElem_range]
  rw [show g.getD k 0 = g[k] by simp [h]]
  by_cases e : g[k] = (k : Int) <;> simp [e]

def bgHp (n : NetN) (all : List Int) (km : List V) (out : List V) : List (Nat × AM.Obj) := [(1264, ⟨.map, 150, 1, km⟩), (1248, ⟨.arr, 3, 1, out⟩), (1184, ⟨.arr, 3, 1, ints all⟩), (0, ⟨.box, 77, 6, [netV n]⟩)]
def bgS (n : NetN) (l : List (Bool × Int)) (votes : List (Int × Int × Int)) (all : List Int) (sl : List (Nat × V)) (km out : List V) (nx : Nat) : St :=
  ⟨sl ++ [(16, .mp 1264), (15, .obj 1248 n.subs.length), (14, .obj 1184 all.length), (4, .ptr 0 1 0 0), (2, .sl 3 (votesV votes)), (1, .sl 2 (bondsV l))], bgHp n all km out, nx, [], 171, 0, tabG⟩
set_option maxHeartbeats 8000000 in
theorem Offsets_spec (n : NetN) (l : List (Bool × Int)) (votes : List (Int × Int × Int)) (cs : List Int) :
    FnD Tryd.prog 36 [netV n, .sl 2 (bondsV l), .sl 3 (votesV votes), .sl 1 (ints cs)] (.tup [.sl 1 (ints (offsL n l votes cs)), .int .i64 (offsC n l votes cs)]) tabG := by
  have hp1 := sits_pure n.sites
  have hp2 := subs_pure n.subs
  have hp3 := weds_pure n.weds
  have hpb := bonds_pure l
  have hpv := votes_pure votes
  have hpc := ints_pure cs
  have hc := bonded_spec n l
  have hcy := cycled_spec n cs
  have hcm := common_spec n l cs
  have hgs := groups_spec n l
  have hnv : netV n = .agg [.sl 12 (n.sites.map sitV), .sl 2 (n.subs.map subV), .sl 4 (n.weds.map wedV), .int .i64 n.low, .int .i64 n.high, .int .i64 n.step] := rfl
  rw [hnv] at hc hcy hcm hgs ⊢
  refine fnD_of mixed Tryd.func36 rfl rfl (by simp [Tryd.ntmps36]) fun hwf E => ?_
  simp (disch := omega) [go_sem, votes_len, bonds_len, ints_len] at hwf
  simp (disch := omega) [Tryd.ntmps36, go_sem]
  refine callK_data hc [] (by simp [go_sem, hp1, hp2, hp3, hpb]) (.inl rfl) (by simp [go_sem]) (fun _ => ?_) (by simp [tabG, go_sem])
  simp (disch := omega) [go_sem]
  refine br_of (fun h => ?_) (fun h => ?_) <;> simp at h
  · have e : offsC n l votes cs = bondedC n l := by unfold offsC; rw [if_neg h]
    have e2 : offsL n l votes cs = [] := by unfold offsL; rw [e, if_neg h]
    rw [e, e2]
    simp (disch := omega) [go_sem, h, ints]
  · obtain ⟨hn, hl, _⟩ := bonded_ok h
    have hs6 : n.subs.length ≤ 6 := hn.2.2.1.1.2
    simp (disch := omega) [go_sem, votes_len]
    refine br_of (fun h2 => ?_) (fun h2 => ?_) <;> simp at h2
    · have e : offsC n l votes cs = 4 := by unfold offsC; rw [if_pos h, if_pos (by omega)]
      have e2 : offsL n l votes cs = [] := by unfold offsL; rw [e, if_neg (by decide)]
      rw [e, e2]
      simp (disch := omega) [go_sem, h2, ints]
    · have hvl : votes.length = n.weds.length := by omega
      simp (disch := omega) [go_sem, votes_len]
      refine awz_loop mixed (fun k : Nat => ⟨[(38, .int .i64 k), (37, .int .i64 votes.length), (36, .sl 3 (votesV votes)), (4, .ptr 0 1 0 0), (3, .sl 1 (ints cs)), (2, .sl 3 (votesV votes)), (1, .sl 2 (bondsV l))], [(0, ⟨.box, 77, 6, [netV n]⟩)], 1024, [], 171, 0, tabG⟩)
        (fun k => k ≤ votes.length ∧ ∀ i, i < k → votedAt n votes i) (fun k => votes.length - k) 0 ⟨by omega, fun i hi => by omega⟩ ?_ ?_
      · refine Le.mk [(0, some 0)] [0] ⟨rfl, rfl, rfl⟩ ?_ ?_ ?_ <;> simp [go_sem, netV, hp1, hp2, hp3, hpb, hpv, hpc]
      · rintro k ⟨hk, hno⟩
        simp (disch := omega) [go_sem, netV]
        refine br_of (fun h3 => ?_) (fun h3 => ?_) <;> simp at h3
        · have hkw : k < n.weds.length := by omega
          have hgv := nth_votes h3
          have hgw : nth (n.weds.map wedV) k = wedV n.weds[k] := nth_map hkw
          have hoff : n.weds[k].offsets.length ≤ 8 := (hn.2.2.2.2.2 _ (List.getElem_mem hkw)).2.2.2.2.1.2
          have hat : votedAt n votes k = (0 ≤ (votes[k]).1 ∧ (votes[k]).1 < ((n.weds[k]).offsets.length : Int)) := by
            unfold votedAt wedAt
            simp [h3, hkw]
          generalize n.weds[k] = w at *
          generalize votes[k] = v at *
          obtain ⟨wa, wb, wv, wo⟩ := w
          obtain ⟨v1, v2, v3⟩ := v
          simp only at hat hoff
          have hpo := ints_pure wo
          simp (disch := omega) [go_sem, h3, hgv, hgw, wedV, voteV, ints_len, votes_len]
          refine ⟨fun _ => hkw, .inl (by kernel_rfl), ?_⟩
          refine br_of (fun h4 => ?_) (fun h4 => ?_) <;> simp at h4
          · have hvo : ¬ votedOk n votes := fun hv => by
              have := hv k h3
              rw [hat] at this
              omega
            have e : offsC n l votes cs = 2 := by unfold offsC; rw [if_pos h, if_neg (by omega), if_neg hvo]
            have e2 : offsL n l votes cs = [] := by unfold offsL; rw [e, if_neg (by decide)]
            rw [e, e2]
            simp (disch := omega) [go_sem, ints]
          · simp (disch := omega) [go_sem]
            refine round_of (k + 1) ⟨by omega, fun i hi => ?_⟩ (by omega) (Le.mk [(0, some 0)] [0] ⟨rfl, rfl, rfl⟩ ?_ ?_ ?_)
            · by_cases e : i = k
              · rw [e, hat]; omega
              · exact hno i (by omega)
            all_goals simp [go_sem, netV, hp1, hp2, hp3, hpb, hpv, hpc]
        · have hkl : k = votes.length := by omega
          subst hkl
          have hvo : votedOk n votes := hno
          have e : offsC n l votes cs = cycledC n cs := by unfold offsC; rw [if_pos h, if_neg (by omega), if_pos hvo]
          simp (disch := omega) [go_sem]
          refine callK_data (hcy hn) [] (by simp [go_sem, hp1, hp2, hp3, hpc]) (.inl rfl) (by simp [go_sem]) (fun _ => ?_) (by simp [tabG, go_sem])
          simp (disch := omega) [go_sem]
          refine br_of (fun h4 => ?_) (fun h4 => ?_) <;> simp at h4
          · have e2 : offsL n l votes cs = [] := by unfold offsL; rw [e, if_neg h4]
            rw [e, e2]
            simp (disch := omega) [go_sem, h4, ints]
          · obtain ⟨hk4, hcs⟩ := cycled_ok h4
            have e2 : offsL n l votes cs = beginN n l votes (commonG (groupsN n l) cs) (groupsN n l) := by unfold offsL; rw [e, if_pos h4]
            rw [e, e2, h4]
            have hcb : ∀ c ∈ cs, 1 ≤ c ∧ c ≤ 1048576 := fun c hc => cyc_bound hn.1 (hcs c hc)
            have hab := commonG_bound (g := groupsN n l) hcb
            have hal := commonG_len (groupsN n l) cs
            have hgl := (groups_ok (l := l) hn).len
            have hcm := hcm hn hl hk4
            have hgs := hgs hn hl
            generalize groupsN n l = g at *
            generalize commonG g cs = all at *
            have hpg := ints_pure g
            have hpa := ints_pure all
            have hpr := pures_rep n.subs.length
            simp (disch := omega) [go_sem]
            refine callK_ref hcm [] [] [] [] ?_ ?_ ?_ (.inl ⟨rfl, .inl rfl⟩) (fun _ => ?_)
            · simp [go_sem, hp1, hp2, hp3, hpb, hpc]
            · simp [go_sem]
            · simp [go_sem]
            simp (disch := omega) [go_sem]
            refine ⟨by omega, .inl (by kernel_rfl), ?_⟩
            refine callK_data hgs [] (by simp [go_sem, hp1, hp2, hp3, hpb]) (.inl rfl) (by simp [go_sem, hpg]) (fun _ => ?_)
            simp (disch := omega) [go_sem, ints_len]
            have hkl0 : (kn0 g).length = g.length := by simp [kn0]
            refine awz_loop mixed (fun k : Nat => bgS n l votes all [(78, .int .i64 k), (77, .int .i64 g.length), (76, .sl 1 (ints g))] (kmV ((kn0 g).take k)) (List.replicate n.subs.length (V.int .i64 0)) 2048)
              (fun k => k ≤ g.length) (fun k => g.length - k) 0 (by omega) ?_ ?_
            · refine Le.mk [(0, some 0), (1184, some 1184), (1248, some 1248), (1264, some 1264)] [0, 1184, 1248, 1264] ⟨rfl, rfl, rfl⟩ ?_ ?_ ?_ <;> simp [go_sem, bgS, bgHp, netV, hp1, hp2, hp3, hpb, hpv, hpc, hpg, hpa, hpr, kmV, hal]
            · intro m hm
              simp (disch := omega) [go_sem, bgS, bgHp, netV]
              refine br_of (fun h5 => ?_) (fun h5 => ?_) <;> simp at h5
              · have hput := kn0_next h5
                have hgm := nth_ints h5
                have hkml : (kmV ((kn0 g).take m)).length ≤ 6 := by rw [km_len, List.length_take]; omega
                have hpk := km_pure ((kn0 g).take (m + 1))
                simp (disch := omega) [go_sem, ints_len, hgm, hput]
                exact ⟨h5, by omega, round_of (m + 1) (by omega) (by omega) (Le.mk [(0, some 0), (1184, some 1184), (1248, some 1248), (1264, some 1264)] [0, 1184, 1248, 1264] ⟨rfl, rfl, rfl⟩ (by simp [go_sem, bgS, bgHp, netV, hp1, hp2, hp3, hpb, hpv, hpc, hpg, hpa, hpr]) (by simp [go_sem, bgS, bgHp, netV, hp1, hp2, hp3, hpb, hpv, hpc, hpg, hpa, hpr, hpk]) (by simp [go_sem, bgS, bgHp, netV, hp1, hp2, hp3, hpb, hpv, hpc, hpg, hpa, hpr]))⟩
              · have hml : m = g.length := by omega
                subst hml
                rw [List.take_of_length_le (by omega)]
                simp (disch := omega) [go_sem]
                have hok0 := bg0_ok (n := n) hgl
                have hwk : ∀ k, ∀ h : k < n.weds.length, 0 ≤ n.weds[k].a ∧ n.weds[k].a < n.weds[k].b ∧ n.weds[k].b < n.subs.length := fun k h => by
                  have := hn.2.2.2.2.2 _ (List.getElem_mem h)
                  exact ⟨this.1, this.2.1, this.2.2.1⟩
                have hby : ∀ i, 0 ≤ (wedAt n i).offsets.getD ((votes.getD i (0, 0, 0)).1).toNat 0 ∧ (wedAt n i).offsets.getD ((votes.getD i (0, 0, 0)).1).toNat 0 ≤ 1048576 := fun i => by
                  unfold wedAt
                  by_cases hi : i < n.weds.length
                  · have hw := (hn.2.2.2.2.2 _ (List.getElem_mem hi)).2.2.2.2.2
                    have ht : n.low ≤ 1048576 := hn.1.1.2
                    simp only [List.getD_eq_getElem?_getD, List.getElem?_eq_getElem hi, Option.getD_some]
                    generalize ((votes[i]?).getD (0, 0, 0)).1.toNat = j
                    by_cases hj : j < n.weds[i].offsets.length
                    · simp only [List.getElem?_eq_getElem hj, Option.getD_some]
                      have := hw _ (List.getElem_mem hj)
                      omega
                    · simp [hj]
                  · simp [hi]
                refine awz_loop mixed (fun p : BgSt × Nat => bgS n l votes all [(19, .bool p.1.more)] (kmV p.1.kn) (ints p.1.out) 4096)
                  (fun p => BgOk n p.1 ∧ bmeas p.1 ≤ p.2 ∧ beginN n l votes all g = (bgF n l votes all p.2 p.1).out) (fun p => bmeas p.1) (bg0 n g, bmeas (bg0 n g)) ⟨hok0, Nat.le_refl _, rfl⟩ ?_ ?_
                · have hpk := km_pure (kn0 g)
                  have hrz : ints (List.replicate n.subs.length 0) = List.replicate n.subs.length (V.int .i64 0) := by simp [ints]
                  refine Le.mk [(0, some 0), (1184, some 1184), (1248, some 1248), (1264, some 1264)] [0, 1184, 1248, 1264] ⟨rfl, rfl, rfl⟩ ?_ ?_ ?_ <;> simp [go_sem, bgS, bgHp, netV, hp1, hp2, hp3, hpb, hpv, hpc, hpg, hpa, hpr, bg0, hpk, hal, hrz]
                · rintro ⟨s, f⟩ ⟨hok, hf, hbe⟩
                  simp only at hok hf hbe
                  simp (disch := omega) [go_sem, bgS, bgHp, netV]
                  refine br_of (fun h6 => ?_) (fun h6 => ?_)
                  · have hpass := bgPass_ok (s := ⟨s.out, s.kn, false⟩) (l := l) (votes := votes) (all := all) hn (fun i => (hby i).1) hab ⟨hok.ol, hok.kl, hok.le⟩ rfl
                    obtain ⟨f', rfl⟩ : ∃ f', f = f' + 1 := ⟨f - 1, by unfold bmeas at hf; rw [h6] at hf; simp at hf; omega⟩
                    rw [bgF, if_pos h6] at hbe
                    have hfc : fcount ⟨s.out, s.kn, false⟩ = fcount s := rfl
                    rw [hfc] at hpass
                    generalize hs0 : (⟨s.out, s.kn, false⟩ : BgSt) = s0 at *
                    simp (disch := omega) [go_sem]
                    refine awz_loop mixed (fun k : Nat => bgS n l votes all [(93, .int .i64 k), (92, .int .i64 n.weds.length), (91, .sl 4 (n.weds.map wedV)), (19, .bool (bgPass n l votes all s0 k).more)] (kmV (bgPass n l votes all s0 k).kn) (ints (bgPass n l votes all s0 k).out) 8192)
                      (fun k => k ≤ n.weds.length) (fun k => n.weds.length - k) 0 (by omega) ?_ ?_
                    · have hpk := km_pure s.kn
                      have e0 : bgPass n l votes all s0 0 = s0 := rfl
                      have hpo := ints_pure s.out
                      rw [← hs0] at e0
                      refine Le.mk [(0, some 0), (1184, some 1184), (1248, some 1248), (1264, some 1264)] [0, 1184, 1248, 1264] ⟨rfl, rfl, rfl⟩ ?_ ?_ ?_ <;> simp [go_sem, bgS, bgHp, netV, hp1, hp2, hp3, hpb, hpv, hpc, hpg, hpa, hpr, hpk, hpo, ← hs0, e0]
                    · intro k hk
                      have hpk := hpass k hk
                      have hsucc := bgPass_succ n l votes all s0 k
                      generalize ht : bgPass n l votes all s0 k = t at *
                      simp (disch := omega) [go_sem, bgS, bgHp, netV]
                      refine br_of (fun h7 => ?_) (fun h7 => ?_) <;> simp at h7
                      · have hw := hwk k h7
                        have hgw : nth (n.weds.map wedV) k = wedV n.weds[k] := nth_map h7
                        have ha : aAt n k = n.weds[k].a.toNat := by simp [aAt, h7]
                        have hb : bAt n k = n.weds[k].b.toNat := by simp [bAt, h7]
                        have hwd : wedAt n k = n.weds[k] := by simp [wedAt, h7]
                        have hkl7 : k < l.length := by omega
                        have hkv7 : k < votes.length := by omega
                        have hgb : nth (bondsV l) k = bondV l[k] := nth_bonds hkl7
                        have hgv := nth_votes hkv7
                        have htg : tog l k = l[k].1 := by simp [tog, hkl7]
                        have hvd : votes.getD k (0, 0, 0) = votes[k] := by simp [hkv7]
                        have hvo7 := hvo k hkv7
                        unfold votedAt at hvo7
                        have hby7 := hby k
                        have hstep : bgStep n l votes all t k = if l[k].1 = false ∨ t.kn.getD n.weds[k].a.toNat false = t.kn.getD n.weds[k].b.toNat false then t
                          else ⟨if t.kn.getD n.weds[k].a.toNat false then t.out.set n.weds[k].b.toNat ((t.out.getD n.weds[k].a.toNat 0 + n.weds[k].offsets.getD votes[k].1.toNat 0).tmod (all.getD n.weds[k].a.toNat 1))
                              else t.out.set n.weds[k].a.toNat ((t.out.getD n.weds[k].b.toNat 0 - (n.weds[k].offsets.getD votes[k].1.toNat 0).tmod (all.getD n.weds[k].a.toNat 1) + all.getD n.weds[k].a.toNat 1).tmod (all.getD n.weds[k].a.toNat 1)),
                            (t.kn.set n.weds[k].a.toNat true).set n.weds[k].b.toNat true, true⟩ := by
                          unfold bgStep
                          rw [htg, ha, hb, hwd, hvd]
                        rw [hwd, hvd] at hvo7 hby7
                        have hkbl : bondsV l = bondsV l := rfl
                        generalize n.weds[k] = w at *
                        generalize votes[k] = v at *
                        generalize l[k] = bd at *
                        obtain ⟨wa, wb, wv, wo⟩ := w
                        obtain ⟨v1, v2, v3⟩ := v
                        obtain ⟨tg, mn⟩ := bd
                        simp only at hw hvo7 hby7 hstep
                        obtain ⟨a, rfl⟩ := Int.eq_ofNat_of_zero_le hw.1
                        obtain ⟨b, rfl⟩ := Int.eq_ofNat_of_zero_le (show 0 ≤ wb by omega)
                        obtain ⟨j, rfl⟩ := Int.eq_ofNat_of_zero_le hvo7.1
                        simp only [Int.toNat_natCast] at hstep hby7
                        have hok7 := hpk.1
                        have hak : a < t.kn.length := by rw [hok7.kl]; omega
                        have hbk : b < t.kn.length := by rw [hok7.kl]; omega
                        have hao : a < t.out.length := by rw [hok7.ol]; omega
                        have hbo : b < t.out.length := by rw [hok7.ol]; omega
                        have haa : a < all.length := by omega
                        have hjo : j < wo.length := by omega
                        have hma := mfind_km hak
                        have hmb := mfind_km hbk
                        have hpwo := ints_pure wo
                        rw [hstep] at hsucc
                        have hab7 := hab a
                        have hea : all.getD a 1 = all[a] := by simp [haa]
                        have heo : wo.getD j 0 = wo[j] := by simp [hjo]
                        have hoa : t.out.getD a 0 = t.out[a] := by simp [hao]
                        have hob : t.out.getD b 0 = t.out[b] := by simp [hbo]
                        have hla := hok7.le a
                        have hlb := hok7.le b
                        rw [hoa] at hla
                        rw [hob] at hlb
                        rw [hea] at hab7
                        rw [heo] at hby7
                        rw [hea, heo, hoa, hob] at hsucc
                        have hna := nth_ints haa
                        have hnj := nth_ints hjo
                        have hnoa := nth_ints hao
                        have hnob := nth_ints hbo
                        have hkp := km_pure t.kn
                        have hop := ints_pure t.out
                        have hpk1 := put_km hak
                        have hpk2 := put_km (kn := t.kn.set a true) (a := b) (by simpa using hbk)
                        have hkl1 : (kmV t.kn).length ≤ 6 := by rw [km_len, hok7.kl]; omega
                        have hkl2 : (kmV (t.kn.set a true)).length ≤ 6 := by rw [km_len, List.length_set, hok7.kl]; omega
                        have hbb := tmod_bound hby7.1 hab7.1
                        have hol7 := hok7.ol
                        have hkp2 := km_pure ((t.kn.set a true).set b true)
                        generalize hka : t.kn.getD a false = ka at *
                        generalize hkb : t.kn.getD b false = kb at *
                        cases tg with
                        | false =>
                          simp only [true_or, if_true] at hsucc
                          simp (disch := omega) [go_sem, h7, hgw, hgb, wedV, bondV, bonds_len, hma, hmb]
                          exact ⟨hkl7, round_of (k + 1) (by omega) (by omega) (Le.mk [(0, some 0), (1184, some 1184), (1248, some 1248), (1264, some 1264)] [0, 1184, 1248, 1264] ⟨rfl, rfl, rfl⟩ (by simp [go_sem, bgS, bgHp, netV, hp1, hp2, hp3, hpb, hpv, hpc, hpg, hpa, hkp, hop, hsucc]) (by simp [go_sem, bgS, bgHp, netV, hp1, hp2, hp3, hpb, hpv, hpc, hpg, hpa, hkp, hop, hsucc]) (by simp [go_sem, bgS, bgHp, netV, hp1, hp2, hp3, hpb, hpv, hpc, hpg, hpa, hkp, hop, hsucc]))⟩
                        | true =>
                          cases ka with
                          | false =>
                            cases kb with
                            | false =>
                              simp only [or_true, if_true] at hsucc
                              simp (disch := omega) [go_sem, h7, hgw, hgb, wedV, bondV, bonds_len, hma, hmb]
                              exact ⟨hkl7, round_of (k + 1) (by omega) (by omega) (Le.mk [(0, some 0), (1184, some 1184), (1248, some 1248), (1264, some 1264)] [0, 1184, 1248, 1264] ⟨rfl, rfl, rfl⟩ (by simp [go_sem, bgS, bgHp, netV, hp1, hp2, hp3, hpb, hpv, hpc, hpg, hpa, hkp, hop, hsucc]) (by simp [go_sem, bgS, bgHp, netV, hp1, hp2, hp3, hpb, hpv, hpc, hpg, hpa, hkp, hop, hsucc]) (by simp [go_sem, bgS, bgHp, netV, hp1, hp2, hp3, hpb, hpv, hpc, hpg, hpa, hkp, hop, hsucc]))⟩
                            | true =>
                              simp (disch := omega) [go_sem, h7, hgw, hgb, wedV, bondV, bonds_len, hma, hmb]
                              refine ⟨hkl7, ?_⟩
                              simp (disch := omega) [go_sem, h7, hgw, hgb, hgv, voteV, wedV, bondV, votes_len, ints_len, hna, hnj, hnoa, hnob, hma, hmb, hpk1, hpk2, hol7]
                              refine ⟨by omega, by omega, by omega, .inl (by kernel_rfl), ?_⟩
                              refine ⟨by omega, by omega, by omega, .inl (by kernel_rfl), ?_⟩
                              refine ⟨by omega, by omega, .inl (by kernel_rfl), ?_⟩
                              rw [if_neg (by decide), if_neg (by decide)] at hsucc
                              refine round_of (k + 1) (by omega) (by omega) (Le.mk [(0, some 0), (1184, some 1184), (1248, some 1248), (1264, some 1264)] [0, 1184, 1248, 1264] ⟨rfl, rfl, rfl⟩ (by simp [go_sem, bgS, bgHp, netV, hp1, hp2, hp3, hpb, hpv, hpc, hpg, hpa, hkp2, ints_pure, hsucc, gints_set]) (by simp [go_sem, bgS, bgHp, netV, hp1, hp2, hp3, hpb, hpv, hpc, hpg, hpa, hkp2, ints_pure, hsucc, gints_set]) (by simp [go_sem, bgS, bgHp, netV, hp1, hp2, hp3, hpb, hpv, hpc, hpg, hpa, hkp2, ints_pure, hsucc, gints_set]))
                          | true =>
                            cases kb with
                            | false =>
                              simp (disch := omega) [go_sem, h7, hgw, hgb, wedV, bondV, bonds_len, hma, hmb]
                              refine ⟨hkl7, ?_⟩
                              simp (disch := omega) [go_sem, h7, hgw, hgb, hgv, voteV, wedV, bondV, votes_len, ints_len, hna, hnj, hnoa, hnob, hma, hmb, hpk1, hpk2, hol7]
                              refine ⟨by omega, by omega, by omega, .inl (by kernel_rfl), ?_⟩
                              refine ⟨by omega, by omega, by omega, .inl (by kernel_rfl), ?_⟩
                              refine ⟨by omega, by omega, .inl (by kernel_rfl), ?_⟩
                              rw [if_neg (by decide), if_pos rfl] at hsucc
                              refine round_of (k + 1) (by omega) (by omega) (Le.mk [(0, some 0), (1184, some 1184), (1248, some 1248), (1264, some 1264)] [0, 1184, 1248, 1264] ⟨rfl, rfl, rfl⟩ (by simp [go_sem, bgS, bgHp, netV, hp1, hp2, hp3, hpb, hpv, hpc, hpg, hpa, hkp2, ints_pure, hsucc, gints_set]) (by simp [go_sem, bgS, bgHp, netV, hp1, hp2, hp3, hpb, hpv, hpc, hpg, hpa, hkp2, ints_pure, hsucc, gints_set]) (by simp [go_sem, bgS, bgHp, netV, hp1, hp2, hp3, hpb, hpv, hpc, hpg, hpa, hkp2, ints_pure, hsucc, gints_set]))
                            | true =>
                              simp only [or_true, if_true] at hsucc
                              simp (disch := omega) [go_sem, h7, hgw, hgb, wedV, bondV, bonds_len, hma, hmb]
                              exact ⟨hkl7, round_of (k + 1) (by omega) (by omega) (Le.mk [(0, some 0), (1184, some 1184), (1248, some 1248), (1264, some 1264)] [0, 1184, 1248, 1264] ⟨rfl, rfl, rfl⟩ (by simp [go_sem, bgS, bgHp, netV, hp1, hp2, hp3, hpb, hpv, hpc, hpg, hpa, hkp, hop, hsucc]) (by simp [go_sem, bgS, bgHp, netV, hp1, hp2, hp3, hpb, hpv, hpc, hpg, hpa, hkp, hop, hsucc]) (by simp [go_sem, bgS, bgHp, netV, hp1, hp2, hp3, hpb, hpv, hpc, hpg, hpa, hkp, hop, hsucc]))⟩
                      · have hkl7 : k = n.weds.length := by omega
                        subst hkl7
                        simp (disch := omega) [go_sem]
                        have hms : bmeas s = fcount s + 1 := by unfold bmeas; rw [h6]; rfl
                        have hmt : bmeas t ≤ fcount s := by
                          unfold bmeas
                          cases hto : t.more with
                          | true => have := hpk.2.2 hto; simp; omega
                          | false => have := hpk.2.1; simp; omega
                        rw [ht] at hbe
                        have hkp := km_pure t.kn
                        have hop := ints_pure t.out
                        refine round_of (t, f') ⟨hpk.1, by simp only; omega, hbe⟩ (by simp only; omega) (Le.mk [(0, some 0), (1184, some 1184), (1248, some 1248), (1264, some 1264)] [0, 1184, 1248, 1264] ⟨rfl, rfl, rfl⟩ ?_ ?_ ?_) <;> simp [go_sem, bgS, bgHp, netV, hp1, hp2, hp3, hpb, hpv, hpc, hpg, hpa, hkp, hop]
                  · have hres : beginN n l votes all g = s.out := by
                      rw [hbe]
                      cases f with
                      | zero => rfl
                      | succ f => rw [bgF, if_neg (by rw [h6]; decide)]
                    rw [hres]
                    have hpo := ints_pure s.out
                    have hol := hok.ol
                    simp (disch := omega) [go_sem, ints_len, hpo, hol]
end Go.Proofs.YtdeionjkcmpnpaaDoor
