
/- The layer wed: bonds told apart, groups, cycles. -/
import Derived.Test.YtdeionjkcmpnpaaDoorWedG
set_option linter.unusedSimpArgs false
set_option linter.unusedVariables false
namespace Go.Proofs.YtdeionjkcmpnpaaDoor
open Go.AM Go.RowKit
set_option maxRecDepth 100000

theorem bonds_len (l : List (Bool × Int)) : (bondsV l).length = l.length := by simp [bondsV]
theorem nth_bonds {l : List (Bool × Int)} {k : Nat} (h : k < l.length) : nth (bondsV l) k = bondV l[k] := nth_map h
theorem bondV_pure (b : Bool × Int) : (bondV b).pure := by simp [bondV, go_sem]
def findB (l : List (Bool × Int)) (q : Bool × Int → Bool) : Int := match l.findIdx? q with | some i => i | none => -1
theorem indexFunc_bonds (l : List (Bool × Int)) (g : FuncId) (fst caps : List V) (q : Bool × Int → Bool) (hpf : pures fst) (hpc : pures caps) (hq : ∀ x ∈ l, FnD Tryd.prog g (fst ++ [bondV x] ++ caps) (.bool (q x))) :
    FnD Tryd.prog 162 [.sl 2 (bondsV l), .func (.func g) fst caps] (.int .i64 (findB l q)) := by
  have yes : ∀ k (h : k < l.length), (∀ j (hj : j < l.length), j < k → q l[j] = false) → q l[k] = true → (findB l q) = k := by
    intro k h hno hk
    have : l.findIdx? q = some k := by
      rw [List.findIdx?_eq_some_iff_getElem]
      exact ⟨h, hk, fun j hj => by simp [hno j (by omega) hj]⟩
    simp [findB, this]
  have no : (∀ j (hj : j < l.length), q l[j] = false) → (findB l q) = -1 := by
    intro hno
    have : l.findIdx? q = none := by
      rw [List.findIdx?_eq_none_iff]
      intro x hx
      obtain ⟨j, hj, rfl⟩ := List.getElem_of_mem hx
      exact hno j hj
    simp [findB, this]
  generalize (findB l q) = res at *
  refine fnD_of mixed Tryd.func162 rfl rfl (by simp [Tryd.ntmps162]) fun hwf E => ?_
  simp (disch := omega) [go_sem, bonds_len] at hwf
  simp (disch := omega) [Tryd.ntmps162, go_sem, bonds_len]
  refine awz_loop mixed (fun k : Nat => ⟨[(0, .sl 2 (bondsV l)), (1, .func (.func g) fst caps), (7, .int .i64 l.length), (8, .int .i64 k), (4, .int .i64 0)], [], 1024, [], 19, 0, []⟩)
    (fun k => k ≤ l.length ∧ ∀ j (hj : j < l.length), j < k → q l[j] = false) (fun k => l.length - k) 0 (by simp) ?_ ?_
  · refine Le.mk [] [] ⟨rfl, rfl, rfl⟩ ?_ ?_ ?_ <;> simp [go_sem, vsLe_self, hpf, hpc, bonds_pure]
  · rintro k ⟨hk, hno⟩
    simp (disch := omega) [go_sem]
    refine br_of (fun h => ?_) (fun h => ?_) <;> simp at h
    · have hm : l[k] ∈ l := List.getElem_mem h
      have hgb := nth_bonds h
      simp (disch := omega) [go_sem, h, bonds_len, hgb, bondV]
      refine callK_data (hq _ hm) [] ?_ (.inl rfl) (by simp [go_sem]) fun hw => ?_
      · simp (disch := omega) [go_sem]
        have ha := argsLe_self (hp := AM.look []) (B := fun i => i ∈ ([] : List Nat)) (n := 8) (xs := fst ++ [bondV l[k]] ++ caps) (by simp [go_sem, hpf, hpc, bondV])
        simpa [AM.look, bondV] using ha
      · simp (disch := omega) [go_sem]
        refine br_of (fun h2 => ?_) (fun h2 => ?_)
        · simp (disch := omega) [go_sem]
          exact (yes k h hno h2).symm
        · simp (disch := omega) [go_sem]
          refine round_of (k + 1) ⟨h, fun j hj hk' => ?_⟩ (by omega) (Le.mk [] [] ⟨rfl, rfl, rfl⟩ ?_ ?_ ?_)
          · by_cases e : j = k
            · subst e; exact h2
            · exact hno j hj (by omega)
          all_goals simp (disch := omega) [go_sem, vsLe_self, hpf, hpc, bonds_pure]
    · simp (disch := omega) [go_sem]
      exact (no fun j hj => hno j hj (by omega)).symm
theorem findB_any (l : List (Bool × Int)) (q : Bool × Int → Bool) : decide ((findB l q) ≥ 0) = l.any q := by
  unfold findB
  cases h : l.findIdx? q with
  | none =>
    have := List.findIdx?_eq_none_iff.1 h
    have : l.any q = false := by simpa using this
    simp [this]
  | some i =>
    obtain ⟨hi, hp, _⟩ := List.findIdx?_eq_some_iff_getElem.1 h
    have : l.any q = true := List.any_eq_true.2 ⟨_, List.getElem_mem hi, hp⟩
    simp [this]
theorem containsFunc_bonds (l : List (Bool × Int)) (g : FuncId) (fst caps : List V) (q : Bool × Int → Bool) (hpf : pures fst) (hpc : pures caps) (hq : ∀ x ∈ l, FnD Tryd.prog g (fst ++ [bondV x] ++ caps) (.bool (q x))) :
    FnD Tryd.prog 130 [.sl 2 (bondsV l), .func (.func g) fst caps] (.bool (l.any q)) := by
  refine fnD_of mixed Tryd.func130 rfl rfl (by simp [Tryd.ntmps130]) fun hwf E => ?_
  simp (disch := omega) [Tryd.ntmps130, go_sem] at hwf ⊢
  refine callK_data (indexFunc_bonds l g fst caps q hpf hpc hq) [] ?_ (.inl rfl) (by simp [go_sem]) fun hw => ?_
  · simp [go_sem, hpf, hpc, bonds_pure]
  · simp (disch := omega) [go_sem]
    simpa using findB_any l q


theorem bonded1_spec (b : Bool × Int) : FnD Tryd.prog 131 [bondV b] (.bool (!inM b.2)) := by
  have hm := may_spec b
  obtain ⟨t, m⟩ := b
  have hbv : bondV (t, m) = .agg [.bool t, .int .i64 m] := rfl
  rw [hbv] at hm ⊢
  refine fnD_of mixed Tryd.func131 rfl rfl (by simp [Tryd.ntmps131]) fun hwf E => ?_
  simp (disch := omega) [Tryd.ntmps131, go_sem]
  refine callK_bool hm [] (by simp [go_sem]) (fun h1 => ?_) (fun h1 => ?_) <;> simp (disch := omega) [go_sem, h1]
/-- The error of a region, or of bonds. -/
noncomputable def bondedC (n : NetN) (l : List (Bool × Int)) : Int := if NetOk n then if l.length ≠ n.weds.length then 4 else if l.any (fun b => !inM b.2) then 2 else 0 else 60
theorem bonded_spec (n : NetN) (l : List (Bool × Int)) : FnD Tryd.prog 79 [netV n, .sl 2 (bondsV l)] (.int .i64 (bondedC n l)) tabG := by
  have hp1 := sits_pure n.sites
  have hp2 := subs_pure n.subs
  have hp3 := weds_pure n.weds
  have hpb := bonds_pure l
  have hc := ncheck_spec n
  have hnv : netV n = .agg [.sl 12 (n.sites.map sitV), .sl 2 (n.subs.map subV), .sl 4 (n.weds.map wedV), .int .i64 n.low, .int .i64 n.high, .int .i64 n.step] := rfl
  rw [hnv] at hc ⊢
  refine fnD_of mixed Tryd.func79 rfl rfl (by simp [Tryd.ntmps79]) fun hwf E => ?_
  simp (disch := omega) [go_sem, bonds_len] at hwf
  simp (disch := omega) [Tryd.ntmps79, go_sem]
  refine callK_data hc [] (by simp [go_sem, hp1, hp2, hp3]) (.inl rfl) (by simp [go_sem]) (fun _ => ?_) (by simp [tabG, go_sem])
  by_cases hOk : NetOk n
  · rw [netN_ok hOk]
    simp (disch := omega) [go_sem, bonds_len]
    refine br_of (fun h1 => ?_) (fun h1 => ?_) <;> simp at h1
    · have e : bondedC n l = 4 := by unfold bondedC; rw [if_pos hOk, if_pos (by omega)]
      simp (disch := omega) [go_sem, e]
    · simp (disch := omega) [go_sem]
      refine callK_bool (containsFunc_bonds l 131 [] [] (fun b => !inM b.2) (by simp [go_sem]) (by simp [go_sem]) (fun x _ => bonded1_spec x)) [] (by simp [go_sem, hpb]) (fun h2 => ?_) (fun h2 => ?_)
      · have e : bondedC n l = 2 := by unfold bondedC; rw [if_pos hOk, if_neg (by omega), if_pos h2]
        simp (disch := omega) [go_sem, e]
      · have e : bondedC n l = 0 := by unfold bondedC; rw [if_pos hOk, if_neg (by omega), if_neg (by rw [h2]; decide)]
        simp (disch := omega) [go_sem, e]
  · rw [netN_bad hOk]
    simp (disch := omega) [go_sem, bondedC, hOk]
theorem bonded_ok {n : NetN} {l : List (Bool × Int)} (h : bondedC n l = 0) : NetOk n ∧ l.length = n.weds.length ∧ ∀ b ∈ l, inM b.2 = true := by
  unfold bondedC at h
  by_cases h1 : NetOk n
  · rw [if_pos h1] at h
    by_cases h2 : l.length = n.weds.length
    · rw [if_neg (by simpa using h2)] at h
      refine ⟨h1, h2, fun b hb => ?_⟩
      by_cases h3 : l.any (fun b => !inM b.2) = true
      · rw [if_pos h3] at h; omega
      · cases hi : inM b.2 with
        | true => rfl
        | false => exact absurd (List.any_eq_true.2 ⟨b, hb, by simp [hi]⟩) h3
    · rw [if_pos h2] at h; omega
  · rw [if_neg h1] at h; omega

theorem bondedC_of {n : NetN} {l : List (Bool × Int)} (h1 : NetOk n) (h2 : l.length = n.weds.length) (h3 : ∀ b ∈ l, inM b.2 = true) : bondedC n l = 0 := by
  unfold bondedC
  rw [if_pos h1, if_neg (by omega), if_neg]
  rw [Bool.not_eq_true, List.any_eq_false]
  intro b hb
  simp [h3 b hb]
theorem grF_ok {n : NetN} {l : List (Bool × Int)} (hn : NetOk n) : ∀ (f : Nat) (g : List Int), GrOk n g → GrOk n (grF n l f g)
  | 0, g, h => h
  | f + 1, g, h => by
    rw [grF]
    cases hf : firstJ n l g with
    | none => exact h
    | some i =>
      have hi := List.find?_some hf
      have hm := List.mem_of_find?_eq_some hf
      rw [List.mem_range] at hm
      unfold joins at hi
      rw [Bool.and_eq_true, decide_eq_true_eq] at hi
      have hw := hn.2.2.2.2.2 _ (List.getElem_mem hm)
      obtain ⟨w1, w2, w3, _⟩ := hw
      have ha : aAt n i < g.length := by rw [h.len]; simp [aAt, hm]; omega
      have hb : bAt n i < g.length := by rw [h.len]; simp [bAt, hm]; omega
      have ea : g.getD (aAt n i) 0 = g[aAt n i] := by simp [ha]
      have eb : g.getD (bAt n i) 0 = g[bAt n i] := by simp [hb]
      simp only
      rw [ea, eb]
      rw [ea, eb] at hi
      exact grF_ok hn f _ (h.merge ha hb hi.2)
theorem groups_ok {n : NetN} {l : List (Bool × Int)} (hn : NetOk n) : GrOk n (groupsN n l) := grF_ok hn _ _ (GrOk.id n)

/-! the error of cycles -/
noncomputable def cycledC (n : NetN) (cs : List Int) : Int := if cs.length ≠ n.subs.length then 4 else if cs.any (fun c => !decide (c ∈ cycN n (cycK n + 1))) then 2 else 0
theorem cycled_ok {n : NetN} {cs : List Int} (h : cycledC n cs = 0) : cs.length = n.subs.length ∧ ∀ c ∈ cs, c ∈ cycN n (cycK n + 1) := by
  unfold cycledC at h
  by_cases h2 : cs.length = n.subs.length
  · rw [if_neg (by simpa using h2)] at h
    refine ⟨h2, fun b hb => ?_⟩
    by_cases h3 : (cs.any fun c => !decide (c ∈ cycN n (cycK n + 1))) = true
    · rw [if_pos h3] at h; omega
    · by_cases hi : b ∈ cycN n (cycK n + 1)
      · exact hi
      · exact absurd (List.any_eq_true.2 ⟨b, hb, by simp [hi]⟩) h3
  · rw [if_pos h2] at h; omega
theorem cycled1_spec (l : List Int) (x : Int) : FnD Tryd.prog 137 [.int .i64 x, .tptr 1 [.sl 1 (ints l)] 0 0] (.bool (!decide (x ∈ l))) := by
  have hp := ints_pure l
  refine fnD_of mixed Tryd.func137 rfl rfl (by simp [Tryd.ntmps137]) fun hwf E => ?_
  simp (disch := omega) [Tryd.ntmps137, go_sem]
  refine callK_bool (contains_spec l x) [] (by simp [go_sem, hp]) (fun h1 => ?_) (fun h1 => ?_) <;> simp (disch := omega) [go_sem] <;> simpa using h1
theorem cycled_spec (n : NetN) (cs : List Int) (hn : NetOk n) : FnD Tryd.prog 83 [netV n, .sl 1 (ints cs)] (.int .i64 (cycledC n cs)) tabG := by
  have hp1 := sits_pure n.sites
  have hp2 := subs_pure n.subs
  have hp3 := weds_pure n.weds
  have hpb := ints_pure cs
  have hc := cycles_spec n
  have hpc := ints_pure (cycN n (cycK n + 1))
  have hnv : netV n = .agg [.sl 12 (n.sites.map sitV), .sl 2 (n.subs.map subV), .sl 4 (n.weds.map wedV), .int .i64 n.low, .int .i64 n.high, .int .i64 n.step] := rfl
  rw [hnv] at hc ⊢
  refine fnD_of mixed Tryd.func83 rfl rfl (by simp [Tryd.ntmps83]) fun hwf E => ?_
  simp (disch := omega) [go_sem, ints_len] at hwf
  simp (disch := omega) [Tryd.ntmps83, go_sem]
  refine callK_data hc [] (by simp [go_sem, hp1, hp2, hp3]) (.inl rfl) (by simp [go_sem, ints_pure]) (fun _ => ?_) (by simp [tabG, go_sem])
  rw [netN_ok hn, allCyc_ok hn]
  simp (disch := omega) [go_sem, ints_len]
  refine br_of (fun h1 => ?_) (fun h1 => ?_) <;> simp at h1
  · have e : cycledC n cs = 4 := by unfold cycledC; rw [if_pos (by omega)]
    simp (disch := omega) [go_sem, e]
  · simp (disch := omega) [go_sem]
    refine callK_bool (containsFunc_ints cs 137 [] [.tptr 1 [.sl 1 (ints (cycN n (cycK n + 1)))] 0 0] (fun c => !decide (c ∈ cycN n (cycK n + 1))) (by simp [go_sem]) (by simp [go_sem, hpc]) (fun x _ => cycled1_spec _ x)) [112] ?_ (fun h2 => ?_) (fun h2 => ?_)
    · simp [go_sem, hpb, hpc]
    · have e : cycledC n cs = 2 := by unfold cycledC; rw [if_neg (by omega), if_pos h2]
      simp (disch := omega) [go_sem, e]
    · have e : cycledC n cs = 0 := by unfold cycledC; rw [if_neg (by omega), if_neg (by rw [h2]; decide)]
      simp (disch := omega) [go_sem, e]

/-! the cycles by which subs go -/
def comK (g cs : List Int) (i k : Nat) : Int := (List.range k).foldl (fun m j => if g.getD i 0 = g.getD j 0 then maxI m (cs.getD j 0) else m) (cs.getD i 0)
def comL (g cs : List Int) (k : Nat) : List Int := (List.range cs.length).map fun i => if i < k then comK g cs i cs.length else cs.getD i 0
def commonG (g cs : List Int) : List Int := comL g cs cs.length
theorem comK_succ (g cs : List Int) (i k : Nat) : comK g cs i (k + 1) = if g.getD i 0 = g.getD k 0 then maxI (comK g cs i k) (cs.getD k 0) else comK g cs i k := by
  unfold comK; rw [List.range_succ, List.foldl_append]; rfl
theorem comL_len (g cs : List Int) (k : Nat) : (comL g cs k).length = cs.length := by simp [comL]
theorem comL_zero (g cs : List Int) : comL g cs 0 = cs := by
  apply List.ext_getElem (by simp [comL])
  intro i h1 h2
  simp [comL, h2]
theorem comL_start {g cs : List Int} {i : Nat} (h : i < cs.length) : (comL g cs i).set i (comK g cs i 0) = comL g cs i := by
  apply List.ext_getElem (by simp)
  intro j h1 h2
  rw [List.getElem_set]
  by_cases e : i = j
  · subst e; simp [comL, comK]
  · simp [e]
theorem comL_next {g cs : List Int} {i : Nat} (h : i < cs.length) : (comL g cs i).set i (comK g cs i cs.length) = comL g cs (i + 1) := by
  apply List.ext_getElem (by simp [comL])
  intro j h1 h2
  rw [List.getElem_set]
  by_cases e : i = j
  · subst e; simp [comL]
  · have e2 : (j < i + 1) = (j < i) := by simp; omega
    simp [comL, e, e2]
set_option maxHeartbeats 4000000 in
theorem common_spec (n : NetN) (l : List (Bool × Int)) (cs : List Int) (hn : NetOk n) (hl : l.length = n.weds.length) (hc : cs.length = n.subs.length) :
    FnR Tryd.prog 84 [] [netV n, .sl 2 (bondsV l), .sl 1 (ints cs)] [⟨.arr, 3, 1, ints (commonG (groupsN n l) cs)⟩] (.obj 0 cs.length) := by
  have hp1 := sits_pure n.sites
  have hp2 := subs_pure n.subs
  have hp3 := weds_pure n.weds
  have hpb := bonds_pure l
  have hpc := ints_pure cs
  have hgs := groups_spec n l hn hl
  have hgl := (groups_ok (l := l) hn).len
  have hs6 : n.subs.length ≤ 6 := hn.2.2.1.1.2
  have hcl := clone_ints cs (by omega)
  generalize groupsN n l = g at *
  have hpg := ints_pure g
  have hnv : netV n = .agg [.sl 12 (n.sites.map sitV), .sl 2 (n.subs.map subV), .sl 4 (n.weds.map wedV), .int .i64 n.low, .int .i64 n.high, .int .i64 n.step] := rfl
  rw [hnv] at hgs ⊢
  refine fnR_of mixed Tryd.func84 rfl rfl (by simp [Tryd.ntmps84]) (by simp) fun hwf E => ?_
  simp (disch := omega) [go_sem, ints_len] at hwf
  simp (disch := omega) [Tryd.ntmps84, go_sem]
  refine callK_data hgs [] (by simp [go_sem, hp1, hp2, hp3, hpb]) (.inl rfl) (by simp [go_sem, hpg]) (fun _ => ?_)
  simp (disch := omega) [go_sem]
  refine callK_ref hcl [] [] [] [] ?_ ?_ ?_ (.inl ⟨rfl, .inl rfl⟩) (fun _ => ?_)
  · simp [go_sem, hpc]
  · simp [go_sem]
  · simp [go_sem]
  simp (disch := omega) [go_sem]
  refine ⟨(ints_len cs).symm, ?_⟩
  refine awz_loop mixed (fun k : Nat => ⟨[(19, .int .i64 k), (18, .int .i64 cs.length), (8, .obj 112 cs.length), (7, .sl 1 (ints g)), (2, .sl 1 (ints cs))], [(112, ⟨.arr, 3, 1, ints (comL g cs k)⟩)], 1024, [], 50, 0, []⟩)
    (fun k => k ≤ cs.length) (fun k => cs.length - k) 0 (by omega) ?_ ?_
  · refine Le.mk [(112, some 112)] [112] ⟨rfl, rfl, rfl⟩ ?_ ?_ ?_ <;> simp [go_sem, hpg, hpc, comL_zero]
  · intro k hk
    simp (disch := omega) [go_sem]
    refine br_of (fun h => ?_) (fun h => ?_) <;> simp at h
    · simp (disch := omega) [go_sem]
      refine awz_loop mixed (fun m : Nat => ⟨[(24, .int .i64 m), (23, .int .i64 cs.length), (22, .sl 1 (ints cs)), (19, .int .i64 k), (18, .int .i64 cs.length), (9, .int .i64 k), (8, .obj 112 cs.length), (7, .sl 1 (ints g)), (2, .sl 1 (ints cs))], [(112, ⟨.arr, 3, 1, ints ((comL g cs k).set k (comK g cs k m))⟩)], 2048, [], 50, 0, []⟩)
        (fun m => m ≤ cs.length) (fun m => cs.length - m) 0 (by omega) ?_ ?_
      · refine Le.mk [(112, some 112)] [112] ⟨rfl, rfl, rfl⟩ ?_ ?_ ?_ <;> simp [go_sem, hpg, hpc, comL_start h, ints_len, ints_pure]
      · intro m hm
        simp (disch := omega) [go_sem, ints_len]
        refine br_of (fun h2 => ?_) (fun h2 => ?_) <;> simp at h2
        · have hk1 : k < g.length := by omega
          have hm1 : m < g.length := by omega
          have hgk := nth_ints hk1
          have hgm := nth_ints hm1
          have hcm := nth_ints h2
          have hsucc := comK_succ g cs k m
          rw [show g.getD k 0 = g[k] by simp [hk1], show g.getD m 0 = g[m] by simp [hm1], show cs.getD m 0 = cs[m] by simp [h2]] at hsucc
          have hck : k < ((comL g cs k).set k (comK g cs k m)).length := by simp [comL_len]; omega
          have hat := nth_ints hck
          rw [List.getElem_set_self] at hat
          have hset : ∀ v : Int, (ints ((comL g cs k).set k (comK g cs k m))).set k (.int .i64 v) = ints ((comL g cs k).set k v) := fun v => by rw [gints_set, List.set_set]
          have hln : ((comL g cs k).set k (comK g cs k m)).length = cs.length := by simp [comL_len]
          generalize hX : (comL g cs k).set k (comK g cs k m) = X at *
          simp (disch := omega) [go_sem, ints_len, hgk, hgm, hcm]
          refine ⟨by omega, by omega, by omega, .inl (by kernel_rfl), ?_⟩
          refine br_of (fun h3 => ?_) (fun h3 => ?_) <;> simp at h3
          · rw [if_pos h3] at hsucc
            unfold maxI at hsucc
            simp (disch := omega) [go_sem, ints_len, hat, hln, hcm]
            refine ⟨h, round_of (m + 1) (by omega) (by omega) (Le.mk [(112, some 112)] [112] ⟨rfl, rfl, rfl⟩ ?_ ?_ ?_)⟩ <;> simp [go_sem, hpg, hpc, ints_pure, hsucc, hset]
          · rw [if_neg h3] at hsucc
            simp (disch := omega) [go_sem]
            refine round_of (m + 1) (by omega) (by omega) (Le.mk [(112, some 112)] [112] ⟨rfl, rfl, rfl⟩ ?_ ?_ ?_) <;> simp [go_sem, hpg, hpc, ints_pure, hsucc, hX]
        · have hml : m = cs.length := by omega
          subst hml
          simp (disch := omega) [go_sem]
          refine round_of (k + 1) (by omega) (by omega) (Le.mk [(112, some 112)] [112] ⟨rfl, rfl, rfl⟩ ?_ ?_ ?_) <;> simp [go_sem, hpg, hpc, comL_next h, ints_pure]
    · have hkl : k = cs.length := by omega
      subst hkl
      simp (disch := omega) [go_sem]
      refine Le.mk [(0, some 112)] [112] ⟨rfl, rfl, rfl⟩ ?_ ?_ ?_ <;> simp [go_sem, commonG, ints_pure]

/-! what is asked -/
noncomputable def groupsL (n : NetN) (l : List (Bool × Int)) : List Int := if bondedC n l = 0 then groupsN n l else []
theorem Groups_spec (n : NetN) (l : List (Bool × Int)) : FnD Tryd.prog 32 [netV n, .sl 2 (bondsV l)] (.tup [.sl 1 (ints (groupsL n l)), .int .i64 (bondedC n l)]) tabG := by
  have hp1 := sits_pure n.sites
  have hp2 := subs_pure n.subs
  have hp3 := weds_pure n.weds
  have hpb := bonds_pure l
  have hc := bonded_spec n l
  have hgs := groups_spec n l
  have hpg := ints_pure (groupsN n l)
  have hnv : netV n = .agg [.sl 12 (n.sites.map sitV), .sl 2 (n.subs.map subV), .sl 4 (n.weds.map wedV), .int .i64 n.low, .int .i64 n.high, .int .i64 n.step] := rfl
  rw [hnv] at hc hgs ⊢
  refine fnD_of mixed Tryd.func32 rfl rfl (by simp [Tryd.ntmps32]) fun hwf E => ?_
  simp (disch := omega) [Tryd.ntmps32, go_sem]
  refine callK_data hc [] (by simp [go_sem, hp1, hp2, hp3, hpb]) (.inl rfl) (by simp [go_sem]) (fun _ => ?_) (by simp [tabG, go_sem])
  simp (disch := omega) [go_sem]
  refine br_of (fun h => ?_) (fun h => ?_) <;> simp at h
  · simp (disch := omega) [go_sem, groupsL, h, ints]
  · obtain ⟨hn, hl, _⟩ := bonded_ok h
    have e : groupsL n l = groupsN n l := by unfold groupsL; rw [if_pos h]
    rw [e, h]
    simp (disch := omega) [go_sem]
    refine callK_data (hgs hn hl) [] (by simp [go_sem, hp1, hp2, hp3, hpb]) (.inl rfl) (by simp [go_sem, hpg]) (fun _ => ?_)
    simp (disch := omega) [go_sem, hpg]
noncomputable def cyclesC (n : NetN) (l : List (Bool × Int)) (cs : List Int) : Int := if bondedC n l = 0 then cycledC n cs else bondedC n l
noncomputable def cyclesL (n : NetN) (l : List (Bool × Int)) (cs : List Int) : List Int := if cyclesC n l cs = 0 then commonG (groupsN n l) cs else []
theorem cyclesC_ok {n : NetN} {l : List (Bool × Int)} {cs : List Int} (h : cyclesC n l cs = 0) : bondedC n l = 0 ∧ cycledC n cs = 0 := by
  unfold cyclesC at h
  split at h
  · next h1 => exact ⟨h1, h⟩
  · next h1 => exact absurd h h1
theorem Cycles_spec (n : NetN) (l : List (Bool × Int)) (cs : List Int) : FnD Tryd.prog 34 [netV n, .sl 2 (bondsV l), .sl 1 (ints cs)] (.tup [.sl 1 (ints (cyclesL n l cs)), .int .i64 (cyclesC n l cs)]) tabG := by
  have hp1 := sits_pure n.sites
  have hp2 := subs_pure n.subs
  have hp3 := weds_pure n.weds
  have hpb := bonds_pure l
  have hpc := ints_pure cs
  have hc := bonded_spec n l
  have hcy := cycled_spec n cs
  have hcm := common_spec n l cs
  have hpg := ints_pure (commonG (groupsN n l) cs)
  have hnv : netV n = .agg [.sl 12 (n.sites.map sitV), .sl 2 (n.subs.map subV), .sl 4 (n.weds.map wedV), .int .i64 n.low, .int .i64 n.high, .int .i64 n.step] := rfl
  rw [hnv] at hc hcy hcm ⊢
  refine fnD_of mixed Tryd.func34 rfl rfl (by simp [Tryd.ntmps34]) fun hwf E => ?_
  simp (disch := omega) [Tryd.ntmps34, go_sem]
  refine callK_data hc [] (by simp [go_sem, hp1, hp2, hp3, hpb]) (.inl rfl) (by simp [go_sem]) (fun _ => ?_) (by simp [tabG, go_sem])
  simp (disch := omega) [go_sem]
  refine br_of (fun h => ?_) (fun h => ?_) <;> simp at h
  · have e : cyclesC n l cs = bondedC n l := by unfold cyclesC; rw [if_neg h]
    have e2 : cyclesL n l cs = [] := by unfold cyclesL; rw [e, if_neg h]
    rw [e, e2]
    simp (disch := omega) [go_sem, h, ints]
  · obtain ⟨hn, hl, _⟩ := bonded_ok h
    have e : cyclesC n l cs = cycledC n cs := by unfold cyclesC; rw [if_pos h]
    simp (disch := omega) [go_sem]
    refine callK_data (hcy hn) [] (by simp [go_sem, hp1, hp2, hp3, hpc]) (.inl rfl) (by simp [go_sem]) (fun _ => ?_) (by simp [tabG, go_sem])
    simp (disch := omega) [go_sem]
    refine br_of (fun h2 => ?_) (fun h2 => ?_) <;> simp at h2
    · have e2 : cyclesL n l cs = [] := by unfold cyclesL; rw [e, if_neg h2]
      rw [e, e2]
      simp (disch := omega) [go_sem, h2, ints]
    · have e2 : cyclesL n l cs = commonG (groupsN n l) cs := by unfold cyclesL; rw [e, if_pos h2]
      obtain ⟨hk, _⟩ := cycled_ok h2
      rw [e, e2, h2]
      simp (disch := omega) [go_sem]
      refine callK_ref (hcm hn hl hk) [] [] [] [] ?_ ?_ ?_ (.inl ⟨rfl, .inl rfl⟩) (fun _ => ?_)
      · simp [go_sem, hp1, hp2, hp3, hpb, hpc]
      · simp [go_sem]
      · simp [go_sem]
      simp (disch := omega) [go_sem, hpg]
      simp [go_sem, ints_len, commonG, comL_len, argsLe_self, ints_pure]
end Go.Proofs.YtdeionjkcmpnpaaDoor
