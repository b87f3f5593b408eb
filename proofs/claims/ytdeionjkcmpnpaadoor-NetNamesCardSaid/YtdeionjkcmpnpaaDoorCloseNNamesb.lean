
/- The statement NetNames: the row without its ties. -/
import Derived.Test.YtdeionjkcmpnpaaDoorCloseNNames
set_option linter.unusedSimpArgs false
set_option linter.unusedVariables false
namespace Go.Proofs.YtdeionjkcmpnpaaDoor
open Go.AM
set_option maxRecDepth 100000

theorem nnames_place : Tryd.prog.inPlace 9 = Rows.netNamesRow.inPlace := by kernel_rfl
theorem nnames_followed : Tryd.prog.unfollowed 9 = Rows.netNamesRow.unfollowed := by kernel_rfl
theorem nnames_recurses : Tryd.prog.recurses 9 = Rows.netNamesRow.recurses := by kernel_rfl
theorem nnames_named : Tryd.prog.varsNamed 9 = Rows.netNamesRow.named := by kernel_rfl
theorem nnames_closed : joinedFacts Tryd.prog 9 Tryd.f9 Rows.netNamesSpec Rows.netNamesRow = true := by
  unfold joinedFacts
  rw [nnames_place, nnames_followed, nnames_recurses, nnames_named, shut_heard, shut_enter, shut_lifts, shut_make, shut_keys, shut_maps, shut_stops, shut_knobs, laidOut]
  kernel_rfl
theorem nnames_holds : Rows.NetNamesSaid :=
  OpenClaim.holds_of_wide 9 Tryd.f9 rfl rfl rfl rfl rfl rfl rfl ⟨rfl, rfl, rfl, rfl, rfl⟩ rfl rfl rfl rfl rfl (by kernel_rfl) Tryd.func9 nnames_closed
    (of_decide_eq_true (by kernel_rfl)) (by unfold Func.isWrapper; first | (rw [if_pos (by decide +kernel)]; kernel_rfl) | (rw [if_neg (by decide +kernel)]; exact ⟨rfl, rfl⟩))
    (fun os started H enc _ => nnames_lifted os started H enc)

end Go.Proofs.YtdeionjkcmpnpaaDoor
