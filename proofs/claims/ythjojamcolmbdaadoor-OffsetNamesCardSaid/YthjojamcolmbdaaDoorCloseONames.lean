/- The statement OffsetNames: its law holds of whatever it is handed, the table of math/bits as the program's text lays it. -/
import Derived.Test.YthjojamcolmbdaaDoorNetRead
import Derived.Test.YthjojamcolmbdaaDoorOff3
set_option linter.unusedSimpArgs false
set_option linter.unusedVariables false
namespace Go.Proofs.YthjojamcolmbdaaDoor
open Go.AM
set_option maxRecDepth 100000

theorem onames_law (xs : List V) (h : argsT Tryd.prog 9 Tryd.f13.params.toList xs) : FnD Tryd.prog 13 xs (.bool true) tabG := by
  simp only [Tryd.params13, argsT] at h
  subst h
  exact onames_spec

theorem onames_lifted (os : Os) (started : os.Started) (H : Type) (enc : TypeId × Value → H) :
    ReturnsInHanded {} Tryd.checked os 13 .any (fun w args => (Rows.offsetNamesSpec.pre enc Tryd.prog Tryd.f13 Rows.offsetNamesRow.domain false w args ∧ laidMetH Tryd.prog laidL w) ∧ sizedMet enc Tryd.prog Tryd.f13 (OpenSpec.ofChange Rows.offsetNamesSpec) false w args)
      (Rows.offsetNamesSpec.post enc Tryd.prog Tryd.f13 false true false false) := by
  refine returnsInHanded_of_change_and (C := Tryd.checked) (X := fun w _ => laidMetH Tryd.prog laidL w) (fun _ _ _ hh h => h.of_heap hh) own started (by kernel_rfl) Tryd.func13
    (ChangeSpec.witness_shaped (enc := enc) (C := Tryd.checked) (os := os) (X := fun w _ => laidMetH Tryd.prog laidL w) false (World.doorLaid Tryd.prog 14 os) #[] 8 rfl (World.shaped_of_RefB (by kernel_rfl) (by kernel_rfl)) (by kernel_rfl) (by kernel_rfl) (by kernel_rfl) (door_met os _)) ?_
  intro W base args ds gs before hval hW _ hwt hL _
  exact close_law_gl 9 laidOut rfl (by kernel_rfl) rfl Tryd.underlying4
    (fun H ds h => match ds, h with | [], _ => rfl) onames_law W (glob_of hL) base args ds gs before hval hW hwt

theorem onames_holds : Rows.OffsetNamesSaid :=
  OpenClaim.holds_of_wide 13 Tryd.f13 rfl rfl rfl rfl rfl rfl rfl ⟨rfl, rfl, rfl, rfl, rfl⟩ rfl rfl rfl rfl rfl (by kernel_rfl) Tryd.func13 (by kernel_rfl)
    (of_decide_eq_true (by kernel_rfl)) (by unfold Func.isWrapper; first | (rw [if_pos (by decide +kernel)]; kernel_rfl) | (rw [if_neg (by decide +kernel)]; exact ⟨rfl, rfl⟩))
    (fun os started H enc _ => onames_lifted os started H enc)

theorem proved_onames : Rows.OffsetNamesCardSaid :=
  Claim7.holds_tied_plain_at .later [] [.data] true (true, "0d09017954fd18d6c6197616bba5d75940851e5face88fc328be598db894cc8d") false
    onames_holds (fun _ h => by cases h) (by kernel_rfl) (fun _ h => by cases h) offsetNames_row_tie rfl ⟨rfl, rfl⟩ (by kernel_rfl) rfl
    (fun f fn hf hfn => by
      obtain rfl : f = 13 := Option.some.inj ((show Tryd.prog.funcNamed "stopline/stoplinelaw27.OffsetNames" = some 13 by kernel_rfl).symm.trans hf) |>.symm
      obtain rfl : fn = Tryd.f13 := (Option.some.inj (Tryd.func13.symm.trans hfn)).symm
      exact ⟨by kernel_rfl, fun j t ht => by
        have hall : (Tryd.f13.params.toList.all fun u => !Tryd.prog.wantsStandIn u) = true := by kernel_rfl
        have hm : t ∈ Tryd.f13.params.toList := List.mem_of_getElem? (i := j) (by rw [Array.getElem?_toList]; exact ht)
        exact (show Tryd.prog.wantsStandIn t = false by simpa using List.all_eq_true.1 hall t hm)⟩)
    (by kernel_rfl)
#print axioms proved_onames
end Go.Proofs.YthjojamcolmbdaaDoor
