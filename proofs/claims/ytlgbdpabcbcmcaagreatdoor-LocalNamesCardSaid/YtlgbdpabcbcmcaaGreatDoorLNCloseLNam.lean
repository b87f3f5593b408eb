import Derived.Test.YtlgbdpabcbcmcaaGreatDoorLN6
import Derived.Test.YtlgbdpabcbcmcaaGreatDoorLNShut

/- The statement LocalNames: its law holds of whatever it is handed, the table of math/bits as the program's text lays it. -/
set_option linter.unusedSimpArgs false
set_option linter.unusedVariables false
namespace Go.Proofs.YtlgbdpabcbcmcaaGreatDoor
open Go.AM
set_option maxRecDepth 100000

theorem xDz(xs:List V)(h:yZz Tryz.prog 13 Tryz.f6.params.toList xs):FnD Tryz.prog 6 xs (.bool true) tabG:=by
  simp only[Tryz.params6,yZz]at h
  subst h
  exact yFy

theorem yFz(os:Os)(started:os.Started)(H:Type)(enc:TypeId × Value→H) :
    ReturnsInHanded {} Tryz.checked os 6 .any (fun w args=>(Rows.localNamesSpec.pre enc Tryz.prog Tryz.f6 Rows.localNamesRow.domain false w args∧laidMetH Tryz.prog yTb w)∧sizedMet enc Tryz.prog Tryz.f6 (OpenSpec.ofChange Rows.localNamesSpec) false w args)
      (Rows.localNamesSpec.post enc Tryz.prog Tryz.f6 false true false false):=by
  refine returnsInHanded_of_change_and (C:=Tryz.checked) (X:=fun w _=>laidMetH Tryz.prog yTb w) (fun _ _ _ hh h=>h.of_heap hh) own started (by kernel_rfl) Tryz.func6
    (ChangeSpec.witness_shaped (enc:=enc) (C:=Tryz.checked) (os:=os) (X:=fun w _=>laidMetH Tryz.prog yTb w) false (World.doorLaid Tryz.prog 14 os) #[] 8 rfl (World.shaped_of_RefB (by kernel_rfl) (by kernel_rfl)) (by kernel_rfl) (by kernel_rfl) (by kernel_rfl) (xKh os _)) ?_
  intro W base args ds gs before hval hW _ hwt hL _
  exact yCr 13 yTa rfl (by kernel_rfl) rfl Tryz.underlying4
    (fun H ds h=>match ds,h with|[],_=>rfl) xDz W (xPr hL) base args ds gs before hval hW hwt

end Go.Proofs.YtlgbdpabcbcmcaaGreatDoor
