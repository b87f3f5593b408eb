/- The statement SiteNames, closed. -/
import Derived.Test.YtiibccoaopjoiaaDoorCloseNames5b
set_option linter.unusedSimpArgs false
set_option linter.unusedVariables false
namespace Go.Proofs.YtiibccoaopjoiaaDoor
open Go.AM
set_option maxRecDepth 100000

theorem proved_snames5 : Rows.SiteNamesCardSaid :=
  Claim7.holds_tied_plain_at .later [] [.data] true (true, "7b6b20f5b8d5b0ef34afb06b36886004030d4d6b6bf663d462ca3c76e3292aa3") false
    snames5_holds (fun _ h => by cases h) (by kernel_rfl) (fun _ h => by cases h) siteNames_row_tie rfl ⟨rfl, rfl⟩ (by kernel_rfl) rfl
    (fun f fn hf hfn => by
      obtain rfl : f = 13 := Option.some.inj ((show Tryd.prog.funcNamed "stopline/stoplinelaw05.SiteNames" = some 13 by kernel_rfl).symm.trans hf) |>.symm
      obtain rfl : fn = Tryd.f13 := (Option.some.inj (Tryd.func13.symm.trans hfn)).symm
      exact ⟨by kernel_rfl, fun j t ht => by
        have hall : (Tryd.f13.params.toList.all fun u => !Tryd.prog.wantsStandIn u) = true := by kernel_rfl
        have hm : t ∈ Tryd.f13.params.toList := List.mem_of_getElem? (i := j) (by rw [Array.getElem?_toList]; exact ht)
        exact (show Tryd.prog.wantsStandIn t = false by simpa using List.all_eq_true.1 hall t hm)⟩)
    (by kernel_rfl)
#print axioms proved_snames5
end Go.Proofs.YtiibccoaopjoiaaDoor
