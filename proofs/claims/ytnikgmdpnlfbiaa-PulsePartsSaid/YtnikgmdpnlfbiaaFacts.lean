/- Closed facts on the types of the translation, printed by a program. -/
import Derived.Test.YtnikgmdpnlfbiaaAmSimp
import Derived.Test.YtnikgmdpnlfbiaaChecked
namespace Go.Proofs.Ytnikgmdpnlfbiaa
open Go.AM
theorem mixed : Try.prog.follows .mixedOrders = true := Try.checked.mixed
theorem felem24 : elemOfT Try.prog 24 = some 3 := by kernel_rfl
theorem felem31 : elemOfT Try.prog 31 = some 4 := by kernel_rfl
theorem fcells3 : Try.prog.cellsOf 3 = 1 := by kernel_rfl
theorem fcells4 : Try.prog.cellsOf 4 = 1 := by kernel_rfl
theorem fcells23 : Try.prog.cellsOf 23 = 3 := by kernel_rfl
theorem fcells31 : Try.prog.cellsOf 31 = 1 := by kernel_rfl
theorem fcells34 : Try.prog.cellsOf 34 = 3 := by kernel_rfl
theorem fbytes3 : Try.prog.bytesOf 3 = 8 := by kernel_rfl
theorem fbytes4 : Try.prog.bytesOf 4 = 1 := by kernel_rfl
theorem frow3 : isRowT Try.prog 3 = some false := by kernel_rfl
theorem frow4 : isRowT Try.prog 4 = some false := by kernel_rfl
theorem frow23 : isRowT Try.prog 23 = some true := by kernel_rfl
theorem frow31 : isRowT Try.prog 31 = some false := by kernel_rfl
theorem frow34 : isRowT Try.prog 34 = some true := by kernel_rfl
theorem fzero3 : zeroV Try.prog 3 = some (.int .i64 0) := by kernel_rfl
theorem fzero4 : zeroV Try.prog 4 = some (.bool false) := by kernel_rfl
theorem fzero23 : zeroV Try.prog 23 = some (.agg [.int .i64 0, .int .i64 0, .int .i64 0]) := by kernel_rfl
theorem fzero31 : zeroV Try.prog 31 = some (.nilS) := by kernel_rfl
theorem fzero34 : zeroV Try.prog 34 = some (.agg [.bool false, .bool false, .int .i64 0]) := by kernel_rfl
theorem fpl23 : plF Try.prog 23 = some (fun i => [(0, 1), (1, 1), (2, 1)].toArray[i]?) := by kernel_rfl
theorem fpl34 : plF Try.prog 34 = some (fun i => [(0, 1), (1, 1), (2, 1)].toArray[i]?) := by kernel_rfl
theorem ffld23a1 : fldOf Try.prog 23 1 = some (1, 3) := by kernel_rfl
theorem ffld23a2 : fldOf Try.prog 23 2 = some (2, 3) := by kernel_rfl
theorem ffld23a0 : fldOf Try.prog 23 0 = some (0, 3) := by kernel_rfl
theorem ffld34a1 : fldOf Try.prog 34 1 = some (1, 4) := by kernel_rfl
theorem ffld34a2 : fldOf Try.prog 34 2 = some (2, 3) := by kernel_rfl
theorem ffld34a0 : fldOf Try.prog 34 0 = some (0, 4) := by kernel_rfl
theorem fflat23 : flatTys Try.prog 23 = some [1, 1, 1] := by kernel_rfl
theorem fflat34 : flatTys Try.prog 34 = some [0, 0, 1] := by kernel_rfl
attribute [go_sem] felem24 felem31 fcells3 fcells4 fcells23 fcells31 fcells34 fbytes3 fbytes4 frow3 frow4 frow23 frow31 frow34 fzero3 fzero4 fzero23 fzero31 fzero34 fpl23 fpl34 ffld23a1 ffld23a2 ffld23a0 ffld34a1 ffld34a2 ffld34a0 fflat23 fflat34 Try.underlying3 Try.underlying4 Try.underlying25
end Go.Proofs.Ytnikgmdpnlfbiaa
