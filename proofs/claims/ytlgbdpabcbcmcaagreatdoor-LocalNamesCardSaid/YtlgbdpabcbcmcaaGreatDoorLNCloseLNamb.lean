import Derived.Test.YtlgbdpabcbcmcaaGreatDoorLNCloseLNam

/- The statement LocalNames: the row without its ties. -/
set_option linter.unusedSimpArgs false
set_option linter.unusedVariables false
namespace Go.Proofs.YtlgbdpabcbcmcaaGreatDoor
open Go.AM
set_option maxRecDepth 100000

theorem yNe:Tryz.prog.inPlace 6=Rows.localNamesRow.inPlace:=by kernel_rfl
theorem zYt:Tryz.prog.unfollowed 6=Rows.localNamesRow.unfollowed:=by kernel_rfl
theorem zYs:Tryz.prog.recurses 6=Rows.localNamesRow.recurses:=by kernel_rfl
theorem yNf:Tryz.prog.varsNamed 6=Rows.localNamesRow.named:=by kernel_rfl
theorem yGa:joinedFacts Tryz.prog 6 Tryz.f6 Rows.localNamesSpec Rows.localNamesRow=true:=by
  unfold joinedFacts
  rw[yNe,zYt,zYs,yNf,yLt,yLu,yLr,yQm,yQn,yQl,yLq,yLs,yTa]
  kernel_rfl
theorem yNg:Rows.LocalNamesSaid:=
  OpenClaim.holds_of_wide 6 Tryz.f6 rfl rfl rfl rfl rfl rfl rfl ⟨rfl,rfl,rfl,rfl,rfl⟩ rfl rfl rfl rfl rfl (by kernel_rfl) Tryz.func6 yGa
    (of_decide_eq_true (by kernel_rfl)) (by unfold Func.isWrapper;first|(rw[if_pos (by decide +kernel)];kernel_rfl)|(rw[if_neg (by decide +kernel)];exact⟨rfl,rfl⟩))
    (fun os started H enc _=>yFz os started H enc)

end Go.Proofs.YtlgbdpabcbcmcaaGreatDoor
