
/- The document's twins of sites. -/
import Derived.Test.YtdeionjkcmpnpaaGreatDoorTwin
set_option linter.unusedSimpArgs false
set_option linter.unusedVariables false
namespace Go.Proofs.YtdeionjkcmpnpaaGreatDoor
open Go.AM Go.RowKit
set_option maxRecDepth 100000

theorem vsLe_app {hp : Heap} {σ : Nat → Option (Option Nat)} {B : Nat → Prop} : ∀ {a b c d : List V}, vsLe hp σ B a b → vsLe hp σ B c d → vsLe hp σ B (a ++ c) (b ++ d)
  | [], b, c, d, h, h2 => by
    simp only [vsLe] at h
    subst h
    exact h2
  | x :: a, b, c, d, h, h2 => by
    simp only [vsLe] at h
    obtain ⟨y, r, rfl, h3, h4⟩ := h
    simp only [List.cons_append, vsLe]
    exact ⟨y, r ++ d, rfl, h3, vsLe_app h4 h2⟩

def tpF (l : List Pln) : Nat → St
  | 0 => ⟨[(4, .int .i64 0), (3, .nilS), (0, .sl 3 (l.map plnV)), (2, .nilS)], [], 1024, [], 28, 0, []⟩
  | k + 1 => ⟨[(4, .int .i64 (k + 1 : Nat)), (3, .obj 512 (k + 1)), (0, .sl 3 (l.map plnV)), (2, .nilS)], [(512, ⟨.arr, 89, 3, (l.take (k + 1)).map plnV⟩)], 1024, [], 28, 0, []⟩

set_option maxHeartbeats 1000000 in
theorem twinplans_spec (l : List Pln) (hl : l.length ≤ 40) (hs : ∀ p ∈ l, p.splits.length ≤ 40) : FnD Tryz.prog 75 [.sl 3 (l.map plnV)] (.sl 3 (l.map plnV)) := by
  have hp := plns_pure l
  refine fnD_of mixed Tryz.func75 rfl rfl (by simp [Tryz.ntmps75]) fun hwf E => ?_
  simp (disch := omega) [Tryz.ntmps75, go_sem]
  refine awz_loop mixed (tpF l) (fun k => k ≤ l.length) (fun k => l.length - k) 0 (by omega) ?_ ?_
  · refine Le.mk [] [] ⟨rfl, rfl, rfl⟩ ?_ ?_ ?_ <;> simp [go_sem, tpF, hp]
  · intro k hk
    cases k with
    | zero =>
      simp (disch := omega) [go_sem, tpF]
      refine br_of (fun h => ?_) (fun h => ?_) <;> simp at h
      · have hg : nth (l.map plnV) 0 = plnV l[0] := nth_map h
        have hsl := hs l[0] (List.getElem_mem h)
        simp (disch := omega) [go_sem, h, hg, plnV, ints_len]
        refine ⟨by omega, ?_⟩
        have ht : List.take 1 (List.map plnV l) = [plnV l[0]] := by
          rw [List.take_succ_eq_append_getElem (by simpa using h)]; simp
        refine round_of 1 (by omega) (by omega) (Le.mk [(512, some 1360)] [1360] ⟨rfl, rfl, rfl⟩ ?_ ?_ ?_) <;> simp [go_sem, tpF, hp, ht, plnV, ints_len]
        exact argsLe_self (ints_pure _)
      · simp (disch := omega) [go_sem]
        exact h
    | succ k =>
      simp (disch := omega) [go_sem, tpF]
      refine br_of (fun h => ?_) (fun h => ?_) <;> simp at h
      · have h' : k + 1 < l.length := by omega
        have hg : nth (l.map plnV) (k + 1) = plnV l[k + 1] := nth_map h'
        have hsl := hs l[k + 1] (List.getElem_mem h')
        simp (disch := omega) [go_sem, h', hg, plnV, ints_len]
        refine ⟨by omega, by omega, by omega, ?_⟩
        have ht : List.take (k + 1 + 1) (List.map plnV l) = List.take (k + 1) (List.map plnV l) ++ [plnV l[k + 1]] := by
          rw [List.take_succ_eq_append_getElem (by simpa using h')]; simp
        have hpt : pures (List.take (k + 1) (List.map plnV l)) := by rw [← List.map_take]; exact plns_pure _
        refine round_of (k + 1 + 1) (by omega) (by omega) (Le.mk [(512, some 512)] [512] ⟨rfl, rfl, rfl⟩ ?_ ?_ ?_) <;> simp [go_sem, tpF, hp, ht]
        refine vsLe_app (vsLe_self _ hpt) ?_
        simp [go_sem, plnV, ints_len]
        exact argsLe_self (ints_pure _)
      · simp (disch := omega) [go_sem]
        rw [List.take_of_length_le (by simp; omega)]
        exact argsLe_self hp

theorem greatS_lens {s : Sit} (h : greatS s = false) : (s.groups.length ≤ 40 ∧ s.apart.length ≤ 40 ∧ s.between.length ≤ 40 ∧ s.phases.length ≤ 40 ∧ s.eyes.length ≤ 60 ∧ s.plans.length ≤ 40) ∧ (∀ l ∈ s.between, l.length ≤ 40) ∧ ∀ p ∈ s.plans, p.splits.length ≤ 40 := by
  unfold greatS at h
  simp only [Bool.or_eq_false_iff, decide_eq_false_iff_not, List.any_eq_false, decide_eq_true_eq] at h
  obtain ⟨⟨⟨⟨⟨⟨h1, h2⟩, h3⟩, h4⟩, h5⟩, h6⟩, h7, h8⟩ := h
  exact ⟨by omega, fun l hl => by have := h7 l hl; omega, fun p hp => by have := h8 p hp; omega⟩

/-- The twin's own cells: groups and what is apart are new; the rest as they were, but for the rows. -/
def twV (s : Sit) (r : V) : V := .agg [.int .i64 s.id, .obj 8192 s.groups.length, .obj 8208 s.apart.length, r, .sl 5 (s.phases.map phaV), .sl 4 (s.eyes.map eyeV), .int .i64 s.watch, .int .i64 s.feed, .int .i64 s.heal, .int .i64 s.low, .int .i64 s.high, .sl 3 (s.plans.map plnV)]
def twF (s : Sit) : Nat → St
  | 0 => ⟨[(4, .int .i64 0), (3, .ptr 48 1 0 0), (2, .ptr 16 1 0 0), (1, .ptr 0 1 0 0)], [(8192, ⟨.arr, 148, 3, s.groups.map grpV⟩), (8208, ⟨.arr, 149, 1, sets s.apart⟩), (48, ⟨.box, 87, 12, [twV s .nilS]⟩), (16, ⟨.box, 87, 12, [.agg [.int .i64 0, .nilS, .nilS, .nilS, .nilS, .nilS, .int .i64 0, .int .i64 0, .int .i64 0, .int .i64 0, .int .i64 0, .nilS]]⟩), (0, ⟨.box, 87, 12, [sitV s]⟩)], 16384, [], 46, 0, []⟩
  | k + 1 => ⟨[(4, .int .i64 (k + 1 : Nat)), (3, .ptr 48 1 0 0), (2, .ptr 16 1 0 0), (1, .ptr 0 1 0 0)], [(8224, ⟨.arr, 52, 1, rows (s.between.take (k + 1))⟩), (8192, ⟨.arr, 148, 3, s.groups.map grpV⟩), (8208, ⟨.arr, 149, 1, sets s.apart⟩), (48, ⟨.box, 87, 12, [twV s (.obj 8224 (k + 1))]⟩), (16, ⟨.box, 87, 12, [.agg [.int .i64 0, .nilS, .nilS, .nilS, .nilS, .nilS, .int .i64 0, .int .i64 0, .int .i64 0, .int .i64 0, .int .i64 0, .nilS]]⟩), (0, ⟨.box, 87, 12, [sitV s]⟩)], 16384, [], 46, 0, []⟩

set_option maxHeartbeats 4000000 in
theorem twin_spec (s : Sit) (hgr : greatS s = false) : FnD Tryz.prog 33 [sitV s] (sitV s) := by
  have hpu := (⟨grps_pure s.groups, phas_pure s.phases, eyes_pure s.eyes, plns_pure s.plans, sets_pure s.apart, rows_pure s.between⟩ : _ ∧ _ ∧ _ ∧ _ ∧ _ ∧ _)
  obtain ⟨hp1, hp2, hp3, hp4, hp5, hp6⟩ := hpu
  obtain ⟨⟨l1, l2, l3, l4, l5, l6⟩, l7, l8⟩ := greatS_lens hgr
  have qp := twinplans_spec s.plans l6 l8
  unfold sitV
  refine fnD_of mixed Tryz.func33 rfl rfl (by simp [Tryz.ntmps33]) fun hwf E => ?_
  simp (disch := omega) [go_sem, sets_len, rows_len] at hwf
  simp (disch := omega) [Tryz.ntmps33, go_sem, sets_len]
  refine ⟨by omega, by omega, ?_⟩
  refine awz_loop mixed (twF s) (fun k => k ≤ s.between.length) (fun k => s.between.length - k) 0 (by omega) ?_ ?_
  · refine Le.mk [(0, some 0), (16, some 16), (48, some 48), (8192, some 112), (8208, some 192)] [0, 16, 48, 112, 192] ⟨rfl, rfl, rfl⟩ ?_ ?_ ?_ <;> simp [go_sem, twF, twV, sitV, hp1, hp2, hp3, hp4, hp5, hp6]
  · intro k hk
    cases k with
    | zero =>
      simp (disch := omega) [go_sem, twF, twV, sitV, rows_len]
      refine br_of (fun h => ?_) (fun h => ?_) <;> simp at h
      · have h' : 0 < s.between.length := by omega
        have hrl := l7 s.between[0] (List.getElem_mem h')
        have hnr := nth_rows h'
        simp (disch := omega) [go_sem, h', hnr, rows_len, ints_len]
        refine ⟨by omega, .inl (by kernel_rfl), ?_⟩
        have ht : rows (s.between.take 1) = [.sl 1 (ints s.between[0])] := by
          rw [List.take_succ_eq_append_getElem h']; simp [rows]
        refine round_of 1 (by omega) (by omega) (Le.mk [(0, some 0), (16, some 16), (48, some 48), (8192, some 8192), (8208, some 8208), (8224, some 16608)] [0, 16, 48, 8192, 8208, 16608] ⟨rfl, rfl, rfl⟩ ?_ ?_ ?_) <;> simp [go_sem, twF, twV, sitV, hp1, hp2, hp3, hp4, hp5, hp6, ht, ints_len]
        exact argsLe_self (ints_pure _)
      · simp (disch := omega) [go_sem]
        refine ⟨by omega, by omega, ?_⟩
        refine callK_data qp [] (by simp [go_sem, hp1, hp2, hp3, hp4, hp5, hp6]) (.inl rfl) (by simp [go_sem, hp1, hp2, hp3, hp4, hp5, hp6]) (fun _ => ?_)
        simp (disch := omega) [go_sem, sets_len]
        have hz : s.between.length = 0 := by first | omega | simp [h]
        rw [List.eq_nil_of_length_eq_zero hz]; rfl
    | succ k =>
      simp (disch := omega) [go_sem, twF, twV, sitV, rows_len]
      refine br_of (fun h => ?_) (fun h => ?_) <;> simp at h
      · have h' : k + 1 < s.between.length := by omega
        have hrl := l7 s.between[k + 1] (List.getElem_mem h')
        have hnr := nth_rows h'
        have hlt : (rows (s.between.take (k + 1))).length = k + 1 := by rw [rows_len, List.length_take]; omega
        simp (disch := omega) [go_sem, h', hnr, rows_len, ints_len, hlt]
        refine ⟨by omega, by omega, by omega, .inl (by kernel_rfl), ?_⟩
        have ht : rows (s.between.take (k + 1 + 1)) = rows (s.between.take (k + 1)) ++ [.sl 1 (ints s.between[k + 1])] := by
          rw [List.take_succ_eq_append_getElem h']; unfold rows; rw [List.map_append]; rfl
        have hpt : pures (rows (s.between.take (k + 1))) := rows_pure _
        refine round_of (k + 1 + 1) (by omega) (by omega) (Le.mk [(0, some 0), (16, some 16), (48, some 48), (8192, some 8192), (8208, some 8208), (8224, some 8224)] [0, 16, 48, 8192, 8208, 8224] ⟨rfl, rfl, rfl⟩ ?_ ?_ ?_) <;> simp [go_sem, twF, twV, sitV, hp1, hp2, hp3, hp4, hp5, hp6, ht]
        refine vsLe_app (vsLe_self _ hpt) ?_
        simp [go_sem, ints_len]
        exact argsLe_self (ints_pure _)
      · have hkl : k + 1 = s.between.length := by omega
        have htk : rows (s.between.take (k + 1)) = rows s.between := by rw [hkl, List.take_length]
        simp (disch := omega) [go_sem]
        refine ⟨by omega, by omega, ?_⟩
        refine callK_data qp [] (by simp [go_sem, hp1, hp2, hp3, hp4, hp5, hp6]) (.inl rfl) (by simp [go_sem, hp1, hp2, hp3, hp4, hp5, hp6]) (fun _ => ?_)
        simp (disch := omega) [go_sem, sets_len, htk]
        rw [rows_len]; exact hkl
end Go.Proofs.YtdeionjkcmpnpaaGreatDoor
