
/- The statement NetNames, closed. -/
import Derived.Test.YtdeionjkcmpnpaaDoorCloseNNamesb
set_option linter.unusedSimpArgs false
set_option linter.unusedVariables false
namespace Go.Proofs.YtdeionjkcmpnpaaDoor
open Go.AM
set_option maxRecDepth 100000

theorem proved_nnames : Rows.NetNamesCardSaid :=
  Claim7.holds_tied_plain_at .later [] [.data] true (true, "4625bc082a7aa8a9608acb8c0e7b2d45b5c7c56855bb37e4dcd59e60d0b845b8") false
    nnames_holds (fun _ h => by cases h) (by kernel_rfl) (fun _ h => by cases h) netNames_row_tie rfl ⟨rfl, rfl⟩ (by kernel_rfl) rfl
    (fun f fn hf hfn => by
      obtain rfl : f = 9 := Option.some.inj ((show Tryd.prog.funcNamed "stopline/stoplinelaw06.NetNames" = some 9 by kernel_rfl).symm.trans hf) |>.symm
      obtain rfl : fn = Tryd.f9 := (Option.some.inj (Tryd.func9.symm.trans hfn)).symm
      exact ⟨by kernel_rfl, fun j t ht => by
        have hall : (Tryd.f9.params.toList.all fun u => !Tryd.prog.wantsStandIn u) = true := by kernel_rfl
        have hm : t ∈ Tryd.f9.params.toList := List.mem_of_getElem? (i := j) (by rw [Array.getElem?_toList]; exact ht)
        exact (show Tryd.prog.wantsStandIn t = false by simpa using List.all_eq_true.1 hall t hm)⟩)
    (by kernel_rfl)
#print axioms proved_nnames
end Go.Proofs.YtdeionjkcmpnpaaDoor
