
/- The statement NetBytes, closed. -/
import Derived.Test.YtdeionjkcmpnpaaGreatDoorCloseNBytesb
set_option linter.unusedSimpArgs false
set_option linter.unusedVariables false
namespace Go.Proofs.YtdeionjkcmpnpaaGreatDoor
open Go.AM
set_option maxRecDepth 100000

theorem proved_nbytes : Rows.NetBytesCardSaid :=
  Claim7.holds_tied_plain_at .later [] [.data] true (true, "f6acf20ef6bbd2bf9b0ce023d7eb05c8831b5b2d78d8083adfb88013dc9bd20c") false
    nbytes_holds (fun _ h => by cases h) (by kernel_rfl) (fun _ h => by cases h) netBytes_row_tie rfl ⟨rfl, rfl⟩ (by kernel_rfl) rfl
    (fun f fn hf hfn => by
      obtain rfl : f = 3 := Option.some.inj ((show Tryz.prog.funcNamed "stopline/stoplinelaw06.NetBytes" = some 3 by kernel_rfl).symm.trans hf) |>.symm
      obtain rfl : fn = Tryz.f3 := (Option.some.inj (Tryz.func3.symm.trans hfn)).symm
      exact ⟨by kernel_rfl, fun j t ht => by
        have hall : (Tryz.f3.params.toList.all fun u => !Tryz.prog.wantsStandIn u) = true := by kernel_rfl
        have hm : t ∈ Tryz.f3.params.toList := List.mem_of_getElem? (i := j) (by rw [Array.getElem?_toList]; exact ht)
        exact (show Tryz.prog.wantsStandIn t = false by simpa using List.all_eq_true.1 hall t hm)⟩)
    (by kernel_rfl)
#print axioms proved_nbytes
end Go.Proofs.YtdeionjkcmpnpaaGreatDoor
