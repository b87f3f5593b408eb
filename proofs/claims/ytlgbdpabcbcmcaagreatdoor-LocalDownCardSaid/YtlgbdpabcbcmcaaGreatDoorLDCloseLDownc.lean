import Derived.Test.YtlgbdpabcbcmcaaGreatDoorLDCloseLDownb

/- The statement LocalDown, closed. -/
set_option linter.unusedSimpArgs false
set_option linter.unusedVariables false
namespace Go.Proofs.YtlgbdpabcbcmcaaGreatDoor
open Go.AM
set_option maxRecDepth 100000

theorem proved_ldown : Rows.LocalDownCardSaid :=
  Claim7.holds_tied_plain_at .later [] [.data, .data] true (true, "c157b1140a8a95764e45e2ebcedea6d11e05bb96815d0308880e74469ccc64fd") false
    yFy (fun _ h => by cases h) (by kernel_rfl) (fun _ h => by cases h) localDown_row_tie rfl ⟨rfl, rfl⟩ (by kernel_rfl) rfl
    (fun f fn hf hfn => by
      obtain rfl : f = 3 := Option.some.inj ((show Tryz.prog.funcNamed "stopline/stoplinelaw23.LocalDown" = some 3 by kernel_rfl).symm.trans hf) |>.symm
      obtain rfl : fn = Tryz.f3 := (Option.some.inj (Tryz.func3.symm.trans hfn)).symm
      exact ⟨by kernel_rfl, fun j t ht => by
        have hall : (Tryz.f3.params.toList.all fun u => !Tryz.prog.wantsStandIn u) = true := by kernel_rfl
        have hm : t ∈ Tryz.f3.params.toList := List.mem_of_getElem? (i := j) (by rw [Array.getElem?_toList]; exact ht)
        exact (show Tryz.prog.wantsStandIn t = false by simpa using List.all_eq_true.1 hall t hm)⟩)
    (by kernel_rfl)
#print axioms proved_ldown
end Go.Proofs.YtlgbdpabcbcmcaaGreatDoor
