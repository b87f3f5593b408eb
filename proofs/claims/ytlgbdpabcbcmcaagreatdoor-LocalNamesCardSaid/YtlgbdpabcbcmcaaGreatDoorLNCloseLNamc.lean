import Derived.Test.YtlgbdpabcbcmcaaGreatDoorLNCloseLNamb

/- The statement LocalNames, closed. -/
set_option linter.unusedSimpArgs false
set_option linter.unusedVariables false
namespace Go.Proofs.YtlgbdpabcbcmcaaGreatDoor
open Go.AM
set_option maxRecDepth 100000

theorem proved_lnam:Rows.LocalNamesCardSaid:=
  Claim7.holds_tied_plain_at .later [] [.data, .data] true (true, "c157b1140a8a95764e45e2ebcedea6d11e05bb96815d0308880e74469ccc64fd") false
    yNg (fun _ h=>by cases h) (by kernel_rfl) (fun _ h=>by cases h) localNames_row_tie rfl ⟨rfl,rfl⟩ (by kernel_rfl) rfl
    (fun f fn hf hfn=>by
      obtain rfl : f = 6 := Option.some.inj ((show Tryz.prog.funcNamed "stopline/stoplinelaw23.LocalNames" = some 6 by kernel_rfl).symm.trans hf) |>.symm
      obtain rfl:fn=Tryz.f6:=(Option.some.inj (Tryz.func6.symm.trans hfn)).symm
      exact⟨by kernel_rfl,fun j t ht=>by
        have hall:(Tryz.f6.params.toList.all fun u=> !Tryz.prog.wantsStandIn u)=true:=by kernel_rfl
        have hm:t∈Tryz.f6.params.toList:=List.mem_of_getElem? (i:=j) (by rw[Array.getElem?_toList];exact ht)
        exact(show Tryz.prog.wantsStandIn t=false by simpa using List.all_eq_true.1 hall t hm)⟩)
    (by kernel_rfl)
#print axioms proved_lnam
end Go.Proofs.YtlgbdpabcbcmcaaGreatDoor
