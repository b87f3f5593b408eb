
/- What closes laws whose rows tie the table of math/bits. -/
import Derived.Test.YtdeionjkcmpnpaaGreatDoorRingA
import Derived.Test.YtdeionjkcmpnpaaGreatDoorRows
import Derived.Test.YtdeionjkcmpnpaaGreatDoorTie
import Derived.Test.YtdeionjkcmpnpaaGreatDoorCards
import Derived.Carry
import Derived.ProofKit
import Derived.LaidMore
import Derived.OpenShut
import Derived.Stop.Joined
set_option linter.unusedSimpArgs false
set_option linter.unusedVariables false
namespace Go.Proofs.YtdeionjkcmpnpaaGreatDoor
open Go.AM Go.RowKit

theorem own : ownKnob Tryz.prog.godebug = none := by kernel_rfl
theorem laidOut : laidOutB Tryz.prog = true := by kernel_rfl
theorem gTab : Tryz.prog.globalNamed "math/bits.deBruijn32tab" = some 0 := by kernel_rfl
theorem tTab : (Tryz.prog.globals[0]?).map (·.type) = some 268 := by kernel_rfl
def laidL : List (String × DataW Unit) := [("math/bits.deBruijn32tab", Rows.laid_math_bits_deBruijn32tab)]

set_option maxRecDepth 100000 in
theorem door_met (os : Os) (args : Array Value) : laidMetH Tryz.prog laidL ((World.doorLaid Tryz.prog 14 os).forCall (fun _ _ => 0) ⟨#[], args, []⟩).memory :=
  laidMetH_of_parts3 (fuel := 8) (laidMet_of_run' 8 (by kernel_rfl) (by kernel_rfl)) (by kernel_rfl) (by kernel_rfl)

def tabI : List Int := [0, 1, 28, 2, 29, 14, 24, 3, 30, 22, 20, 15, 25, 17, 4, 8, 31, 27, 13, 23, 21, 19, 16, 7, 26, 12, 18, 6, 11, 5, 10, 9]
theorem lits_of {xs : List (DataW Unit × List MemPlace)} {cs : List Value} {l : List Int} (hc : cs.length = l.length) (h : xs.map (·.1) = l.map fun n => .lit (.int .u8 n))
    (hel : ∀ i, i < l.length → ∃ n, (cs.drop i).take 1 = [.int .u8 n] ∧ ∃ p, xs[i]? = some (.lit (.int .u8 n), p)) : cs = l.map fun n => .int .u8 n := by
  apply List.ext_getElem (by simpa using hc)
  intro i h1 h2
  have h2' : i < l.length := by simpa using h2
  obtain ⟨n, hn, p, hp⟩ := hel i h2'
  have e1 := congrArg (fun z => z[i]?) h
  simp only [List.getElem?_map, hp, List.getElem?_eq_getElem h2', Option.map_some, Option.some.injEq, DataW.lit.injEq, Lit.int.injEq, true_and] at e1
  have e2 : cs[i]? = some (.int .u8 n) := by
    have := congrArg (fun z => z[0]?) hn
    simpa using this
  rw [List.getElem?_eq_getElem h1] at e2
  simp only [List.getElem_map]
  rw [← e1]
  exact Option.some.inj e2

theorem RVl_u8 {c : Ctx} : ∀ (l : List Int), (∀ n ∈ l, 0 ≤ n ∧ n ≤ 255) → RVl c (l.map fun n => V.int .u8 n) (l.map fun n => Value.int .u8 n)
  | [], _ => by simp [RVl]
  | n :: l, h => by
    simp only [List.map_cons, RVl]
    have hn := h n (by simp)
    refine ⟨_, _, rfl, ?_, RVl_u8 l fun m hm => h m (by simp [hm])⟩
    have hk : IntKind.u8.has n := by simp [IntKind.has, u8_min, u8_max]; omega
    simp [RV, hk]

set_option maxRecDepth 100000 in
theorem glob_of {W : World} (h : laidMetH Tryz.prog laidL W) : GlobW W (fun _ => False) tabG := by
  rw [MakeChecks.laidMetH_plain _ _ _ (by kernel_rfl)] at h
  obtain ⟨ps, ⟨g0, t0, cs0, f0, p0, q0, hg0, ht0, hv0, hd0, _, _⟩, _, _⟩ := h
  obtain rfl := Option.some.inj (gTab.symm.trans hg0)
  obtain rfl := Option.some.inj (tTab.symm.trans ht0)
  obtain ⟨xs, m1, rfl, hx1, hlen, hn, hel⟩ := DataW.trod_array Tryz.underlying268 hd0
  have c8 : Tryz.prog.cellsOf 5 = 1 := by kernel_rfl
  have c32 : Tryz.prog.cellsOf 268 = 32 := by kernel_rfl
  have hxs : xs.map (·.1) = tabI.map fun n => .lit (.int .u8 n) := by
    simp only [Prod.mk.injEq] at hx1
    have := hx1.1
    unfold Rows.laid_math_bits_deBruijn32tab at this
    simp only [DataW.agg.injEq] at this
    exact this.symm
  have hcs : cs0.toList = tabI.map fun n => .int .u8 n := by
    refine lits_of (by rw [hlen, c32]; rfl) hxs fun i hi => ?_
    have h1 := hel i (by simpa [tabI] using hi)
    rw [c8, Nat.mul_one] at h1
    have hi' : i < xs.length := by rw [hn]; simpa [tabI] using hi
    rw [List.getElem?_eq_getElem hi'] at h1
    obtain ⟨k, e1, e2, _⟩ := DataW.trod_int Tryz.underlying5 h1
    exact ⟨k, e1, [], by rw [List.getElem?_eq_getElem hi', e2]⟩
  intro p hp
  simp only [tabG, List.mem_singleton] at hp
  subst hp
  simp only [tab, RV]
  refine ⟨0, 0, [.agg cs0], ?_, ?_, fun h => h, ?_, ?_, rfl⟩
  · simp only [RVl]
    refine ⟨_, [], rfl, ?_, rfl⟩
    simp only [RV]
    refine ⟨cs0, rfl, ?_, ?_⟩
    · rw [hcs]
      exact RVl_u8 tabI (by decide)
    · rw [hcs]
      simp [tabI, Value.oneCell']
  · simp [Value.cells, ← Array.length_toList, hcs, tabI]
  · have := World.var?_cell hg0 hv0 0
    rw [← Array.getElem?_toList, hcs] at this
    show 0 < W.heap.size
    apply Classical.byContradiction
    intro hn
    have h0 : W.heap[0]? = none := by rw [Array.getElem?_eq_none_iff]; omega
    unfold World.cell? at this
    simp [h0, tabI] at this
  · intro j v hj
    have := World.var?_cell hg0 hv0 j
    simp only [flat, List.flatMap_cons, List.flatMap_nil, List.append_nil, Value.cells] at hj
    rw [← Array.getElem?_toList] at this
    rw [hj] at this
    show W.cell? _ = _
    simpa using this
end Go.Proofs.YtdeionjkcmpnpaaGreatDoor
