/- The statement SplitLeast: its law holds of whatever it is handed, the table of math/bits as the program's text lays it. -/
import Derived.Test.YthjojamcolmbdaaDoorNetRead
import Derived.Test.YthjojamcolmbdaaDoorLeast
set_option linter.unusedSimpArgs false
set_option linter.unusedVariables false
namespace Go.Proofs.YthjojamcolmbdaaDoor
open Go.AM
set_option maxRecDepth 100000

theorem sleast_law (xs : List V) (h : argsT Tryd.prog 9 Tryd.f14.params.toList xs) : FnD Tryd.prog 14 xs (.bool true) tabG := by
  simp only [Tryd.params14, argsT] at h
  obtain ⟨_, _, rfl, h1, _, _, rfl, h2, _, _, rfl, h3, _, _, rfl, h4, rfl⟩ := h
  obtain ⟨s, rfl⟩ := one_sit h1
  obtain ⟨v, rfl⟩ := one_vote h2
  obtain ⟨c, rfl⟩ := one_int h3
  obtain ⟨l, rfl⟩ := one_loads h4
  exact sleast_spec s v.1 v.2.1 v.2.2 c l

theorem sleast_lifted (os : Os) (started : os.Started) (H : Type) (enc : TypeId × Value → H) :
    ReturnsInHanded {} Tryd.checked os 14 .any (fun w args => (Rows.splitLeastSpec.pre enc Tryd.prog Tryd.f14 Rows.splitLeastRow.domain false w args ∧ laidMetH Tryd.prog laidL w) ∧ sizedMet enc Tryd.prog Tryd.f14 (OpenSpec.ofChange Rows.splitLeastSpec) false w args)
      (Rows.splitLeastSpec.post enc Tryd.prog Tryd.f14 false true false false) := by
  refine returnsInHanded_of_change_and (C := Tryd.checked) (X := fun w _ => laidMetH Tryd.prog laidL w) (fun _ _ _ hh h => h.of_heap hh) own started (by kernel_rfl) Tryd.func14
    (ChangeSpec.witness_shaped (enc := enc) (C := Tryd.checked) (os := os) (X := fun w _ => laidMetH Tryd.prog laidL w) false (World.doorLaid Tryd.prog 14 os) #[.agg #[.int .i64 0, .slice none 0 0, .slice none 0 0, .slice none 0 0, .slice none 0 0, .slice none 0 0, .int .i64 0, .int .i64 0, .int .i64 0, .int .i64 0, .int .i64 0, .slice none 0 0], .agg #[.int .i64 0, .int .i64 0, .int .i64 0], .int .i64 0, .slice none 0 0] 8 rfl (World.shaped_of_RefB (by kernel_rfl) (by kernel_rfl)) (by kernel_rfl) (by kernel_rfl) (by kernel_rfl) (door_met os _)) ?_
  intro W base args ds gs before hval hW _ hwt hL _
  exact close_law_gl 9 laidOut rfl (by kernel_rfl) rfl Tryd.underlying4
    (fun H ds h => match ds, h with | [d1, d2, d3, d4], _ => rfl) sleast_law W (glob_of hL) base args ds gs before hval hW hwt

theorem sleast_holds : Rows.SplitLeastSaid :=
  OpenClaim.holds_of_wide 14 Tryd.f14 rfl rfl rfl rfl rfl rfl rfl ⟨rfl, rfl, rfl, rfl, rfl⟩ rfl rfl rfl rfl rfl (by kernel_rfl) Tryd.func14 (by kernel_rfl)
    (of_decide_eq_true (by kernel_rfl)) (by unfold Func.isWrapper; first | (rw [if_pos (by decide +kernel)]; kernel_rfl) | (rw [if_neg (by decide +kernel)]; exact ⟨rfl, rfl⟩))
    (fun os started H enc _ => sleast_lifted os started H enc)

theorem proved_sleast : Rows.SplitLeastCardSaid :=
  Claim7.holds_tied_plain_at .later [] [.data] true (true, "0d09017954fd18d6c6197616bba5d75940851e5face88fc328be598db894cc8d") false
    sleast_holds (fun _ h => by cases h) (by kernel_rfl) (fun _ h => by cases h) splitLeast_row_tie rfl ⟨rfl, rfl⟩ (by kernel_rfl) rfl
    (fun f fn hf hfn => by
      obtain rfl : f = 14 := Option.some.inj ((show Tryd.prog.funcNamed "stopline/stoplinelaw26.SplitLeast" = some 14 by kernel_rfl).symm.trans hf) |>.symm
      obtain rfl : fn = Tryd.f14 := (Option.some.inj (Tryd.func14.symm.trans hfn)).symm
      exact ⟨by kernel_rfl, fun j t ht => by
        have hall : (Tryd.f14.params.toList.all fun u => !Tryd.prog.wantsStandIn u) = true := by kernel_rfl
        have hm : t ∈ Tryd.f14.params.toList := List.mem_of_getElem? (i := j) (by rw [Array.getElem?_toList]; exact ht)
        exact (show Tryd.prog.wantsStandIn t = false by simpa using List.all_eq_true.1 hall t hm)⟩)
    (by kernel_rfl)
#print axioms proved_sleast
end Go.Proofs.YthjojamcolmbdaaDoor
