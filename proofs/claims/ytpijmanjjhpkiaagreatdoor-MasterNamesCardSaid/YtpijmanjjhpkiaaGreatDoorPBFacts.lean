/- Closed facts on the types of the translation, printed by a program. -/
import Derived.Test.YtpijmanjjhpkiaaGreatDoorPBAmSimp
import Derived.Test.YtpijmanjjhpkiaaGreatDoorChecked
namespace Go.Proofs.YtpijmanjjhpkiaaGreatDoor
open Go.AM
theorem mixed : Tryz.prog.follows .mixedOrders = true := Tryz.checked.mixed
theorem felem22 : elemOfT Tryz.prog 22 = some 75 := by kernel_rfl
theorem felem23 : elemOfT Tryz.prog 23 = some 84 := by kernel_rfl
theorem felem24 : elemOfT Tryz.prog 24 = some 86 := by kernel_rfl
theorem felem28 : elemOfT Tryz.prog 28 = some 50 := by kernel_rfl
theorem felem29 : elemOfT Tryz.prog 29 = some 103 := by kernel_rfl
theorem felem30 : elemOfT Tryz.prog 30 = some 46 := by kernel_rfl
theorem felem37 : elemOfT Tryz.prog 37 = some 42 := by kernel_rfl
theorem felem40 : elemOfT Tryz.prog 40 = some 3 := by kernel_rfl
theorem felem46 : elemOfT Tryz.prog 46 = some 2 := by kernel_rfl
theorem felem63 : elemOfT Tryz.prog 63 = some 48 := by kernel_rfl
theorem felem68 : elemOfT Tryz.prog 68 = some 132 := by kernel_rfl
theorem felem69 : elemOfT Tryz.prog 69 = some 133 := by kernel_rfl
theorem felem70 : elemOfT Tryz.prog 70 = some 40 := by kernel_rfl
theorem felem71 : elemOfT Tryz.prog 71 = some 135 := by kernel_rfl
theorem felem72 : elemOfT Tryz.prog 72 = some 180 := by kernel_rfl
theorem felem73 : elemOfT Tryz.prog 73 = some 77 := by kernel_rfl
theorem felem113 : elemOfT Tryz.prog 113 = some 36 := by kernel_rfl
theorem felem183 : elemOfT Tryz.prog 183 = some 4 := by kernel_rfl
theorem felem199 : elemOfT Tryz.prog 199 = some 198 := by kernel_rfl
theorem farr194 : arrOfT Tryz.prog 194 = some (8, 2) := by kernel_rfl
theorem farr206 : arrOfT Tryz.prog 206 = some (32, 5) := by kernel_rfl
theorem felem194 : elemOfT Tryz.prog 194 = none := by kernel_rfl
theorem felem206 : elemOfT Tryz.prog 206 = none := by kernel_rfl
theorem fcells2 : Tryz.prog.cellsOf 2 = 1 := by kernel_rfl
theorem fcells3 : Tryz.prog.cellsOf 3 = 1 := by kernel_rfl
theorem fcells4 : Tryz.prog.cellsOf 4 = 1 := by kernel_rfl
theorem fcells5 : Tryz.prog.cellsOf 5 = 1 := by kernel_rfl
theorem fcells22 : Tryz.prog.cellsOf 22 = 1 := by kernel_rfl
theorem fcells23 : Tryz.prog.cellsOf 23 = 1 := by kernel_rfl
theorem fcells24 : Tryz.prog.cellsOf 24 = 1 := by kernel_rfl
theorem fcells26 : Tryz.prog.cellsOf 26 = 6 := by kernel_rfl
theorem fcells28 : Tryz.prog.cellsOf 28 = 1 := by kernel_rfl
theorem fcells29 : Tryz.prog.cellsOf 29 = 1 := by kernel_rfl
theorem fcells30 : Tryz.prog.cellsOf 30 = 1 := by kernel_rfl
theorem fcells32 : Tryz.prog.cellsOf 32 = 5 := by kernel_rfl
theorem fcells36 : Tryz.prog.cellsOf 36 = 1 := by kernel_rfl
theorem fcells37 : Tryz.prog.cellsOf 37 = 1 := by kernel_rfl
theorem fcells40 : Tryz.prog.cellsOf 40 = 1 := by kernel_rfl
theorem fcells42 : Tryz.prog.cellsOf 42 = 4 := by kernel_rfl
theorem fcells46 : Tryz.prog.cellsOf 46 = 1 := by kernel_rfl
theorem fcells48 : Tryz.prog.cellsOf 48 = 4 := by kernel_rfl
theorem fcells50 : Tryz.prog.cellsOf 50 = 3 := by kernel_rfl
theorem fcells68 : Tryz.prog.cellsOf 68 = 1 := by kernel_rfl
theorem fcells69 : Tryz.prog.cellsOf 69 = 1 := by kernel_rfl
theorem fcells70 : Tryz.prog.cellsOf 70 = 1 := by kernel_rfl
theorem fcells71 : Tryz.prog.cellsOf 71 = 1 := by kernel_rfl
theorem fcells72 : Tryz.prog.cellsOf 72 = 1 := by kernel_rfl
theorem fcells73 : Tryz.prog.cellsOf 73 = 1 := by kernel_rfl
theorem fcells75 : Tryz.prog.cellsOf 75 = 12 := by kernel_rfl
theorem fcells77 : Tryz.prog.cellsOf 77 = 3 := by kernel_rfl
theorem fcells84 : Tryz.prog.cellsOf 84 = 2 := by kernel_rfl
theorem fcells86 : Tryz.prog.cellsOf 86 = 4 := by kernel_rfl
theorem fcells89 : Tryz.prog.cellsOf 89 = 14 := by kernel_rfl
theorem fcells103 : Tryz.prog.cellsOf 103 = 2 := by kernel_rfl
theorem fcells132 : Tryz.prog.cellsOf 132 = 3 := by kernel_rfl
theorem fcells133 : Tryz.prog.cellsOf 133 = 1 := by kernel_rfl
theorem fcells135 : Tryz.prog.cellsOf 135 = 5 := by kernel_rfl
theorem fcells159 : Tryz.prog.cellsOf 159 = 2 := by kernel_rfl
theorem fcells180 : Tryz.prog.cellsOf 180 = 4 := by kernel_rfl
theorem fcells194 : Tryz.prog.cellsOf 194 = 8 := by kernel_rfl
theorem fcells198 : Tryz.prog.cellsOf 198 = 2 := by kernel_rfl
theorem fcells206 : Tryz.prog.cellsOf 206 = 32 := by kernel_rfl
theorem fbytes2 : Tryz.prog.bytesOf 2 = 8 := by kernel_rfl
theorem fbytes3 : Tryz.prog.bytesOf 3 = 8 := by kernel_rfl
theorem fbytes4 : Tryz.prog.bytesOf 4 = 1 := by kernel_rfl
theorem fbytes36 : Tryz.prog.bytesOf 36 = 8 := by kernel_rfl
theorem fbytes40 : Tryz.prog.bytesOf 40 = 24 := by kernel_rfl
theorem fbytes42 : Tryz.prog.bytesOf 42 = 48 := by kernel_rfl
theorem fbytes46 : Tryz.prog.bytesOf 46 = 24 := by kernel_rfl
theorem fbytes48 : Tryz.prog.bytesOf 48 = 48 := by kernel_rfl
theorem fbytes50 : Tryz.prog.bytesOf 50 = 24 := by kernel_rfl
theorem fbytes75 : Tryz.prog.bytesOf 75 = 192 := by kernel_rfl
theorem fbytes77 : Tryz.prog.bytesOf 77 = 40 := by kernel_rfl
theorem fbytes84 : Tryz.prog.bytesOf 84 = 32 := by kernel_rfl
theorem fbytes86 : Tryz.prog.bytesOf 86 = 48 := by kernel_rfl
theorem fbytes103 : Tryz.prog.bytesOf 103 = 16 := by kernel_rfl
theorem fbytes132 : Tryz.prog.bytesOf 132 = 24 := by kernel_rfl
theorem fbytes133 : Tryz.prog.bytesOf 133 = 4 := by kernel_rfl
theorem fbytes135 : Tryz.prog.bytesOf 135 = 40 := by kernel_rfl
theorem fbytes180 : Tryz.prog.bytesOf 180 = 32 := by kernel_rfl
theorem fbytes198 : Tryz.prog.bytesOf 198 = 16 := by kernel_rfl
theorem frow2 : isRowT Tryz.prog 2 = some false := by kernel_rfl
theorem frow3 : isRowT Tryz.prog 3 = some false := by kernel_rfl
theorem frow4 : isRowT Tryz.prog 4 = some false := by kernel_rfl
theorem frow5 : isRowT Tryz.prog 5 = some false := by kernel_rfl
theorem frow22 : isRowT Tryz.prog 22 = some false := by kernel_rfl
theorem frow23 : isRowT Tryz.prog 23 = some false := by kernel_rfl
theorem frow24 : isRowT Tryz.prog 24 = some false := by kernel_rfl
theorem frow26 : isRowT Tryz.prog 26 = some true := by kernel_rfl
theorem frow28 : isRowT Tryz.prog 28 = some false := by kernel_rfl
theorem frow29 : isRowT Tryz.prog 29 = some false := by kernel_rfl
theorem frow30 : isRowT Tryz.prog 30 = some false := by kernel_rfl
theorem frow32 : isRowT Tryz.prog 32 = some true := by kernel_rfl
theorem frow36 : isRowT Tryz.prog 36 = some false := by kernel_rfl
theorem frow37 : isRowT Tryz.prog 37 = some false := by kernel_rfl
theorem frow40 : isRowT Tryz.prog 40 = some false := by kernel_rfl
theorem frow42 : isRowT Tryz.prog 42 = some true := by kernel_rfl
theorem frow46 : isRowT Tryz.prog 46 = some false := by kernel_rfl
theorem frow48 : isRowT Tryz.prog 48 = some true := by kernel_rfl
theorem frow50 : isRowT Tryz.prog 50 = some true := by kernel_rfl
theorem frow68 : isRowT Tryz.prog 68 = some false := by kernel_rfl
theorem frow69 : isRowT Tryz.prog 69 = some false := by kernel_rfl
theorem frow70 : isRowT Tryz.prog 70 = some false := by kernel_rfl
theorem frow71 : isRowT Tryz.prog 71 = some false := by kernel_rfl
theorem frow72 : isRowT Tryz.prog 72 = some false := by kernel_rfl
theorem frow73 : isRowT Tryz.prog 73 = some false := by kernel_rfl
theorem frow75 : isRowT Tryz.prog 75 = some true := by kernel_rfl
theorem frow77 : isRowT Tryz.prog 77 = some true := by kernel_rfl
theorem frow84 : isRowT Tryz.prog 84 = some true := by kernel_rfl
theorem frow86 : isRowT Tryz.prog 86 = some true := by kernel_rfl
theorem frow103 : isRowT Tryz.prog 103 = some true := by kernel_rfl
theorem frow132 : isRowT Tryz.prog 132 = some true := by kernel_rfl
theorem frow133 : isRowT Tryz.prog 133 = some false := by kernel_rfl
theorem frow135 : isRowT Tryz.prog 135 = some true := by kernel_rfl
theorem frow159 : isRowT Tryz.prog 159 = some true := by kernel_rfl
theorem frow180 : isRowT Tryz.prog 180 = some true := by kernel_rfl
theorem frow198 : isRowT Tryz.prog 198 = some true := by kernel_rfl
theorem frow206 : isRowT Tryz.prog 206 = some true := by kernel_rfl
theorem fzero2 : zeroV Tryz.prog 2 = some (.int .i64 0) := by kernel_rfl
theorem fzero3 : zeroV Tryz.prog 3 = some (.int .i64 0) := by kernel_rfl
theorem fzero4 : zeroV Tryz.prog 4 = some (.bool false) := by kernel_rfl
theorem fzero5 : zeroV Tryz.prog 5 = some (.int .u8 0) := by kernel_rfl
theorem fzero26 : zeroV Tryz.prog 26 = some (.agg [.nilS, .nilS, .nilS, .int .i64 0, .int .i64 0, .int .i64 0]) := by kernel_rfl
theorem fzero32 : zeroV Tryz.prog 32 = some (.agg [.nilS, .nilS, .nilS, .nilS, .nilS]) := by kernel_rfl
theorem fzero36 : zeroV Tryz.prog 36 = some (.nilF) := by kernel_rfl
theorem fzero40 : zeroV Tryz.prog 40 = some (.nilS) := by kernel_rfl
theorem fzero42 : zeroV Tryz.prog 42 = some (.agg [.int .i64 0, .int .i64 0, .int .i64 0, .nilS]) := by kernel_rfl
theorem fzero46 : zeroV Tryz.prog 46 = some (.nilS) := by kernel_rfl
theorem fzero48 : zeroV Tryz.prog 48 = some (.agg [.int .i64 0, .int .u8 0, .int .i64 0, .nilS]) := by kernel_rfl
theorem fzero50 : zeroV Tryz.prog 50 = some (.agg [.int .i64 0, .int .i64 0, .int .i64 0]) := by kernel_rfl
theorem fzero75 : zeroV Tryz.prog 75 = some (.agg [.int .i64 0, .nilS, .nilS, .nilS, .nilS, .nilS, .int .i64 0, .int .i64 0, .int .i64 0, .int .i64 0, .int .i64 0, .nilS]) := by kernel_rfl
theorem fzero77 : zeroV Tryz.prog 77 = some (.agg [.int .i64 0, .int .i64 0, .nilS]) := by kernel_rfl
theorem fzero84 : zeroV Tryz.prog 84 = some (.agg [.nilS, .int .i64 0]) := by kernel_rfl
theorem fzero86 : zeroV Tryz.prog 86 = some (.agg [.int .i64 0, .int .i64 0, .int .i64 0, .nilS]) := by kernel_rfl
theorem fzero89 : zeroV Tryz.prog 89 = some (.agg [.nilS, .nilS, .nilS, .int .i64 0, .int .i64 0, .int .i64 0, .nilS, .nilS, .nilS, .nilS, .nilS, .nilS, .nilS, .nilS]) := by kernel_rfl
theorem fzero91 : zeroV Tryz.prog 91 = some (.agg [.nilF, .nilF, .nilF, .nilF, .nilF]) := by kernel_rfl
theorem fzero103 : zeroV Tryz.prog 103 = some (.agg [.bool false, .int .i64 0]) := by kernel_rfl
theorem fzero132 : zeroV Tryz.prog 132 = some (.agg [.int .u8 0, .int .i64 0, .int .i64 0]) := by kernel_rfl
theorem fzero133 : zeroV Tryz.prog 133 = some (.int .u32 0) := by kernel_rfl
theorem fzero135 : zeroV Tryz.prog 135 = some (.agg [.int .u32 0, .int .i64 0, .int .i64 0, .int .i64 0, .bool false]) := by kernel_rfl
theorem fzero159 : zeroV Tryz.prog 159 = some (.agg [.int .i64 0, .int .i64 0]) := by kernel_rfl
theorem fzero180 : zeroV Tryz.prog 180 = some (.agg [.int .i64 0, .int .i64 0, .int .i64 0, .int .i64 0]) := by kernel_rfl
theorem fzero194 : zeroV Tryz.prog 194 = some (.agg [.int .i64 0, .int .i64 0, .int .i64 0, .int .i64 0, .int .i64 0, .int .i64 0, .int .i64 0, .int .i64 0]) := by kernel_rfl
theorem fzero198 : zeroV Tryz.prog 198 = some (.agg [.int .i64 0, .int .i64 0]) := by kernel_rfl
theorem fzero206 : zeroV Tryz.prog 206 = some (.agg [.int .u8 0, .int .u8 0, .int .u8 0, .int .u8 0, .int .u8 0, .int .u8 0, .int .u8 0, .int .u8 0, .int .u8 0, .int .u8 0, .int .u8 0, .int .u8 0, .int .u8 0, .int .u8 0, .int .u8 0, .int .u8 0, .int .u8 0, .int .u8 0, .int .u8 0, .int .u8 0, .int .u8 0, .int .u8 0, .int .u8 0, .int .u8 0, .int .u8 0, .int .u8 0, .int .u8 0, .int .u8 0, .int .u8 0, .int .u8 0, .int .u8 0, .int .u8 0]) := by kernel_rfl
theorem fpl26 : plF Tryz.prog 26 = some (fun i => [(0, 1), (1, 1), (2, 1), (3, 1), (4, 1), (5, 1)].toArray[i]?) := by kernel_rfl
theorem fpl32 : plF Tryz.prog 32 = some (fun i => [(0, 1), (1, 1), (2, 1), (3, 1), (4, 1)].toArray[i]?) := by kernel_rfl
theorem fpl42 : plF Tryz.prog 42 = some (fun i => [(0, 1), (1, 1), (2, 1), (3, 1)].toArray[i]?) := by kernel_rfl
theorem fpl48 : plF Tryz.prog 48 = some (fun i => [(0, 1), (1, 1), (2, 1), (3, 1)].toArray[i]?) := by kernel_rfl
theorem fpl50 : plF Tryz.prog 50 = some (fun i => [(0, 1), (1, 1), (2, 1)].toArray[i]?) := by kernel_rfl
theorem fpl75 : plF Tryz.prog 75 = some (fun i => [(0, 1), (1, 1), (2, 1), (3, 1), (4, 1), (5, 1), (6, 1), (7, 1), (8, 1), (9, 1), (10, 1), (11, 1)].toArray[i]?) := by kernel_rfl
theorem fpl77 : plF Tryz.prog 77 = some (fun i => [(0, 1), (1, 1), (2, 1)].toArray[i]?) := by kernel_rfl
theorem fpl84 : plF Tryz.prog 84 = some (fun i => [(0, 1), (1, 1)].toArray[i]?) := by kernel_rfl
theorem fpl86 : plF Tryz.prog 86 = some (fun i => [(0, 1), (1, 1), (2, 1), (3, 1)].toArray[i]?) := by kernel_rfl
theorem fpl89 : plF Tryz.prog 89 = some (fun i => [(0, 6), (6, 5), (11, 1), (12, 1), (13, 1)].toArray[i]?) := by kernel_rfl
theorem fpl91 : plF Tryz.prog 91 = some (fun i => some (i * 1, 1)) := by kernel_rfl
theorem fpl103 : plF Tryz.prog 103 = some (fun i => [(0, 1), (1, 1)].toArray[i]?) := by kernel_rfl
theorem fpl132 : plF Tryz.prog 132 = some (fun i => [(0, 1), (1, 1), (2, 1)].toArray[i]?) := by kernel_rfl
theorem fpl135 : plF Tryz.prog 135 = some (fun i => [(0, 1), (1, 1), (2, 1), (3, 1), (4, 1)].toArray[i]?) := by kernel_rfl
theorem fpl159 : plF Tryz.prog 159 = some (fun i => some (i * 1, 1)) := by kernel_rfl
theorem fpl198 : plF Tryz.prog 198 = some (fun i => [(0, 1), (1, 1)].toArray[i]?) := by kernel_rfl
theorem fpl206 : plF Tryz.prog 206 = some (fun i => some (i * 1, 1)) := by kernel_rfl
theorem ffld48a0 : fldOf Tryz.prog 48 0 = some (0, 3) := by kernel_rfl
theorem ffld48a3 : fldOf Tryz.prog 48 3 = some (3, 46) := by kernel_rfl
theorem ffld42a0 : fldOf Tryz.prog 42 0 = some (0, 3) := by kernel_rfl
theorem ffld42a1 : fldOf Tryz.prog 42 1 = some (1, 3) := by kernel_rfl
theorem ffld42a2 : fldOf Tryz.prog 42 2 = some (2, 3) := by kernel_rfl
theorem ffld42a3 : fldOf Tryz.prog 42 3 = some (3, 40) := by kernel_rfl
theorem ffld89a2 : fldOf Tryz.prog 89 2 = some (11, 40) := by kernel_rfl
theorem ffld89a3 : fldOf Tryz.prog 89 3 = some (12, 40) := by kernel_rfl
theorem ffld89a4 : fldOf Tryz.prog 89 4 = some (13, 37) := by kernel_rfl
theorem ffld32a0 : fldOf Tryz.prog 32 0 = some (0, 28) := by kernel_rfl
theorem ffld32a1 : fldOf Tryz.prog 32 1 = some (1, 28) := by kernel_rfl
theorem ffld32a2 : fldOf Tryz.prog 32 2 = some (2, 29) := by kernel_rfl
theorem ffld32a4 : fldOf Tryz.prog 32 4 = some (4, 28) := by kernel_rfl
theorem ffld89a1 : fldOf Tryz.prog 89 1 = some (6, 32) := by kernel_rfl
theorem ffld32a3 : fldOf Tryz.prog 32 3 = some (3, 30) := by kernel_rfl
theorem ffld89a0 : fldOf Tryz.prog 89 0 = some (0, 26) := by kernel_rfl
theorem ffld84a1 : fldOf Tryz.prog 84 1 = some (1, 3) := by kernel_rfl
theorem ffld26a0 : fldOf Tryz.prog 26 0 = some (0, 22) := by kernel_rfl
theorem ffld86a2 : fldOf Tryz.prog 86 2 = some (2, 3) := by kernel_rfl
theorem ffld84a0 : fldOf Tryz.prog 84 0 = some (0, 40) := by kernel_rfl
theorem ffld103a1 : fldOf Tryz.prog 103 1 = some (1, 3) := by kernel_rfl
theorem ffld75a5 : fldOf Tryz.prog 75 5 = some (5, 72) := by kernel_rfl
theorem ffld180a0 : fldOf Tryz.prog 180 0 = some (0, 3) := by kernel_rfl
theorem ffld180a1 : fldOf Tryz.prog 180 1 = some (1, 3) := by kernel_rfl
theorem ffld180a2 : fldOf Tryz.prog 180 2 = some (2, 3) := by kernel_rfl
theorem ffld180a3 : fldOf Tryz.prog 180 3 = some (3, 3) := by kernel_rfl
theorem ffld75a6 : fldOf Tryz.prog 75 6 = some (6, 3) := by kernel_rfl
theorem ffld75a7 : fldOf Tryz.prog 75 7 = some (7, 3) := by kernel_rfl
theorem ffld75a8 : fldOf Tryz.prog 75 8 = some (8, 3) := by kernel_rfl
theorem ffld50a1 : fldOf Tryz.prog 50 1 = some (1, 3) := by kernel_rfl
theorem ffld50a2 : fldOf Tryz.prog 50 2 = some (2, 3) := by kernel_rfl
theorem ffld50a0 : fldOf Tryz.prog 50 0 = some (0, 3) := by kernel_rfl
theorem ffld198a0 : fldOf Tryz.prog 198 0 = some (0, 3) := by kernel_rfl
theorem ffld75a11 : fldOf Tryz.prog 75 11 = some (11, 73) := by kernel_rfl
theorem ffld75a0 : fldOf Tryz.prog 75 0 = some (0, 3) := by kernel_rfl
theorem ffld132a0 : fldOf Tryz.prog 132 0 = some (0, 5) := by kernel_rfl
theorem ffld132a2 : fldOf Tryz.prog 132 2 = some (2, 3) := by kernel_rfl
theorem ffld132a1 : fldOf Tryz.prog 132 1 = some (1, 3) := by kernel_rfl
theorem ffld135a2 : fldOf Tryz.prog 135 2 = some (2, 3) := by kernel_rfl
theorem ffld135a3 : fldOf Tryz.prog 135 3 = some (3, 3) := by kernel_rfl
theorem ffld26a4 : fldOf Tryz.prog 26 4 = some (4, 3) := by kernel_rfl
theorem ffld26a3 : fldOf Tryz.prog 26 3 = some (3, 3) := by kernel_rfl
theorem ffld26a5 : fldOf Tryz.prog 26 5 = some (5, 3) := by kernel_rfl
theorem ffld86a3 : fldOf Tryz.prog 86 3 = some (3, 40) := by kernel_rfl
theorem ffld86a0 : fldOf Tryz.prog 86 0 = some (0, 3) := by kernel_rfl
theorem ffld86a1 : fldOf Tryz.prog 86 1 = some (1, 3) := by kernel_rfl
theorem ffld103a0 : fldOf Tryz.prog 103 0 = some (0, 4) := by kernel_rfl
theorem ffld26a1 : fldOf Tryz.prog 26 1 = some (1, 23) := by kernel_rfl
theorem ffld26a2 : fldOf Tryz.prog 26 2 = some (2, 24) := by kernel_rfl
theorem ffld198a1 : fldOf Tryz.prog 198 1 = some (1, 2) := by kernel_rfl
theorem ffld75a9 : fldOf Tryz.prog 75 9 = some (9, 3) := by kernel_rfl
theorem ffld77a1 : fldOf Tryz.prog 77 1 = some (1, 3) := by kernel_rfl
theorem ffld77a0 : fldOf Tryz.prog 77 0 = some (0, 3) := by kernel_rfl
theorem ffld75a10 : fldOf Tryz.prog 75 10 = some (10, 3) := by kernel_rfl
theorem ffld77a2 : fldOf Tryz.prog 77 2 = some (2, 40) := by kernel_rfl
theorem ffld135a1 : fldOf Tryz.prog 135 1 = some (1, 3) := by kernel_rfl
theorem ffld75a1 : fldOf Tryz.prog 75 1 = some (1, 68) := by kernel_rfl
theorem ffld135a0 : fldOf Tryz.prog 135 0 = some (0, 133) := by kernel_rfl
theorem ffld75a2 : fldOf Tryz.prog 75 2 = some (2, 69) := by kernel_rfl
theorem ffld75a3 : fldOf Tryz.prog 75 3 = some (3, 70) := by kernel_rfl
theorem ffld75a4 : fldOf Tryz.prog 75 4 = some (4, 71) := by kernel_rfl
theorem fmap157 : mapOf Tryz.prog 157 = some (false, 3, 4) := by kernel_rfl
theorem fmap158 : mapOf Tryz.prog 158 = some (true, 159, 4) := by kernel_rfl
theorem fflat50 : flatTys Tryz.prog 50 = some [1, 1, 1] := by kernel_rfl
theorem fflat103 : flatTys Tryz.prog 103 = some [0, 1] := by kernel_rfl
attribute [go_sem] felem22 felem23 felem24 felem28 felem29 felem30 felem37 felem40 felem46 felem63 felem68 felem69 felem70 felem71 felem72 felem73 felem113 felem183 felem199 farr194 farr206 felem194 felem206 fcells2 fcells3 fcells4 fcells5 fcells22 fcells23 fcells24 fcells26 fcells28 fcells29 fcells30 fcells32 fcells36 fcells37 fcells40 fcells42 fcells46 fcells48 fcells50 fcells68 fcells69 fcells70 fcells71 fcells72 fcells73 fcells75 fcells77 fcells84 fcells86 fcells89 fcells103 fcells132 fcells133 fcells135 fcells159 fcells180 fcells194 fcells198 fcells206 fbytes2 fbytes3 fbytes4 fbytes36 fbytes40 fbytes42 fbytes46 fbytes48 fbytes50 fbytes75 fbytes77 fbytes84 fbytes86 fbytes103 fbytes132 fbytes133 fbytes135 fbytes180 fbytes198 frow2 frow3 frow4 frow5 frow22 frow23 frow24 frow26 frow28 frow29 frow30 frow32 frow36 frow37 frow40 frow42 frow46 frow48 frow50 frow68 frow69 frow70 frow71 frow72 frow73 frow75 frow77 frow84 frow86 frow103 frow132 frow133 frow135 frow159 frow180 frow198 frow206 fzero2 fzero3 fzero4 fzero5 fzero26 fzero32 fzero36 fzero40 fzero42 fzero46 fzero48 fzero50 fzero75 fzero77 fzero84 fzero86 fzero89 fzero91 fzero103 fzero132 fzero133 fzero135 fzero159 fzero180 fzero194 fzero198 fzero206 fpl26 fpl32 fpl42 fpl48 fpl50 fpl75 fpl77 fpl84 fpl86 fpl89 fpl91 fpl103 fpl132 fpl135 fpl159 fpl198 fpl206 ffld48a0 ffld48a3 ffld42a0 ffld42a1 ffld42a2 ffld42a3 ffld89a2 ffld89a3 ffld89a4 ffld32a0 ffld32a1 ffld32a2 ffld32a4 ffld89a1 ffld32a3 ffld89a0 ffld84a1 ffld26a0 ffld86a2 ffld84a0 ffld103a1 ffld75a5 ffld180a0 ffld180a1 ffld180a2 ffld180a3 ffld75a6 ffld75a7 ffld75a8 ffld50a1 ffld50a2 ffld50a0 ffld198a0 ffld75a11 ffld75a0 ffld132a0 ffld132a2 ffld132a1 ffld135a2 ffld135a3 ffld26a4 ffld26a3 ffld26a5 ffld86a3 ffld86a0 ffld86a1 ffld103a0 ffld26a1 ffld26a2 ffld198a1 ffld75a9 ffld77a1 ffld77a0 ffld75a10 ffld77a2 ffld135a1 ffld75a1 ffld135a0 ffld75a2 ffld75a3 ffld75a4 fmap157 fmap158 fflat50 fflat103 Tryz.underlying2 Tryz.underlying3 Tryz.underlying4 Tryz.underlying5 Tryz.underlying33 Tryz.underlying133 Tryz.underlying172 Tryz.underlying178
end Go.Proofs.YtpijmanjjhpkiaaGreatDoor
