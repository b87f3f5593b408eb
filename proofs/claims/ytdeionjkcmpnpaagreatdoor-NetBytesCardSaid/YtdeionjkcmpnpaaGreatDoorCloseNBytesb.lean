
/- The statement NetBytes: the row without its ties. -/
import Derived.Test.YtdeionjkcmpnpaaGreatDoorCloseNBytes
set_option linter.unusedSimpArgs false
set_option linter.unusedVariables false
namespace Go.Proofs.YtdeionjkcmpnpaaGreatDoor
open Go.AM
set_option maxRecDepth 100000

theorem nbytes_place : Tryz.prog.inPlace 3 = Rows.netBytesRow.inPlace := by kernel_rfl
theorem nbytes_followed : Tryz.prog.unfollowed 3 = Rows.netBytesRow.unfollowed := by kernel_rfl
theorem nbytes_recurses : Tryz.prog.recurses 3 = Rows.netBytesRow.recurses := by kernel_rfl
theorem nbytes_named : Tryz.prog.varsNamed 3 = Rows.netBytesRow.named := by kernel_rfl
theorem nbytes_closed : joinedFacts Tryz.prog 3 Tryz.f3 Rows.netBytesSpec Rows.netBytesRow = true := by
  unfold joinedFacts
  rw [nbytes_place, nbytes_followed, nbytes_recurses, nbytes_named, shut_heard, shut_enter, shut_lifts, shut_make, shut_keys, shut_maps, shut_stops, shut_knobs, laidOut]
  kernel_rfl
theorem nbytes_holds : Rows.NetBytesSaid :=
  OpenClaim.holds_of_wide 3 Tryz.f3 rfl rfl rfl rfl rfl rfl rfl ⟨rfl, rfl, rfl, rfl, rfl⟩ rfl rfl rfl rfl rfl (by kernel_rfl) Tryz.func3 nbytes_closed
    (of_decide_eq_true (by kernel_rfl)) (by unfold Func.isWrapper; first | (rw [if_pos (by decide +kernel)]; kernel_rfl) | (rw [if_neg (by decide +kernel)]; exact ⟨rfl, rfl⟩))
    (fun os started H enc _ => nbytes_lifted os started H enc)

end Go.Proofs.YtdeionjkcmpnpaaGreatDoor
