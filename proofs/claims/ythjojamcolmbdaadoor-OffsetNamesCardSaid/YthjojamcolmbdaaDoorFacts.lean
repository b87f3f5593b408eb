/- Closed facts on the types of the translation, printed by a program. -/
import Derived.Test.YthjojamcolmbdaaDoorAmSimp
import Derived.Test.YthjojamcolmbdaaDoorChecked
namespace Go.Proofs.YthjojamcolmbdaaDoor
open Go.AM
theorem mixed : Tryd.prog.follows .mixedOrders = true := Tryd.checked.mixed
theorem felem22 : elemOfT Tryd.prog 22 = some 117 := by kernel_rfl
theorem felem23 : elemOfT Tryd.prog 23 = some 112 := by kernel_rfl
theorem felem24 : elemOfT Tryd.prog 24 = some 30 := by kernel_rfl
theorem felem25 : elemOfT Tryd.prog 25 = some 114 := by kernel_rfl
theorem felem26 : elemOfT Tryd.prog 26 = some 107 := by kernel_rfl
theorem felem27 : elemOfT Tryd.prog 27 = some 32 := by kernel_rfl
theorem felem30 : elemOfT Tryd.prog 30 = some 3 := by kernel_rfl
theorem felem49 : elemOfT Tryd.prog 49 = some 2 := by kernel_rfl
theorem felem55 : elemOfT Tryd.prog 55 = some 29 := by kernel_rfl
theorem felem56 : elemOfT Tryd.prog 56 = some 123 := by kernel_rfl
theorem felem57 : elemOfT Tryd.prog 57 = some 70 := by kernel_rfl
theorem felem127 : elemOfT Tryd.prog 127 = some 62 := by kernel_rfl
theorem felem141 : elemOfT Tryd.prog 141 = some 140 := by kernel_rfl
theorem farr82 : arrOfT Tryd.prog 82 = some (5, 2) := by kernel_rfl
theorem farr83 : arrOfT Tryd.prog 83 = some (5, 3) := by kernel_rfl
theorem farr162 : arrOfT Tryd.prog 162 = some (8, 2) := by kernel_rfl
theorem farr167 : arrOfT Tryd.prog 167 = some (32, 5) := by kernel_rfl
theorem felem82 : elemOfT Tryd.prog 82 = none := by kernel_rfl
theorem felem83 : elemOfT Tryd.prog 83 = none := by kernel_rfl
theorem felem162 : elemOfT Tryd.prog 162 = none := by kernel_rfl
theorem felem167 : elemOfT Tryd.prog 167 = none := by kernel_rfl
theorem fcells2 : Tryd.prog.cellsOf 2 = 1 := by kernel_rfl
theorem fcells3 : Tryd.prog.cellsOf 3 = 1 := by kernel_rfl
theorem fcells4 : Tryd.prog.cellsOf 4 = 1 := by kernel_rfl
theorem fcells5 : Tryd.prog.cellsOf 5 = 1 := by kernel_rfl
theorem fcells22 : Tryd.prog.cellsOf 22 = 1 := by kernel_rfl
theorem fcells23 : Tryd.prog.cellsOf 23 = 1 := by kernel_rfl
theorem fcells24 : Tryd.prog.cellsOf 24 = 1 := by kernel_rfl
theorem fcells25 : Tryd.prog.cellsOf 25 = 1 := by kernel_rfl
theorem fcells26 : Tryd.prog.cellsOf 26 = 1 := by kernel_rfl
theorem fcells27 : Tryd.prog.cellsOf 27 = 1 := by kernel_rfl
theorem fcells29 : Tryd.prog.cellsOf 29 = 12 := by kernel_rfl
theorem fcells30 : Tryd.prog.cellsOf 30 = 1 := by kernel_rfl
theorem fcells32 : Tryd.prog.cellsOf 32 = 3 := by kernel_rfl
theorem fcells55 : Tryd.prog.cellsOf 55 = 1 := by kernel_rfl
theorem fcells56 : Tryd.prog.cellsOf 56 = 1 := by kernel_rfl
theorem fcells57 : Tryd.prog.cellsOf 57 = 1 := by kernel_rfl
theorem fcells59 : Tryd.prog.cellsOf 59 = 6 := by kernel_rfl
theorem fcells61 : Tryd.prog.cellsOf 61 = 2 := by kernel_rfl
theorem fcells62 : Tryd.prog.cellsOf 62 = 1 := by kernel_rfl
theorem fcells70 : Tryd.prog.cellsOf 70 = 4 := by kernel_rfl
theorem fcells82 : Tryd.prog.cellsOf 82 = 5 := by kernel_rfl
theorem fcells83 : Tryd.prog.cellsOf 83 = 5 := by kernel_rfl
theorem fcells87 : Tryd.prog.cellsOf 87 = 3 := by kernel_rfl
theorem fcells107 : Tryd.prog.cellsOf 107 = 4 := by kernel_rfl
theorem fcells112 : Tryd.prog.cellsOf 112 = 1 := by kernel_rfl
theorem fcells114 : Tryd.prog.cellsOf 114 = 5 := by kernel_rfl
theorem fcells117 : Tryd.prog.cellsOf 117 = 3 := by kernel_rfl
theorem fcells123 : Tryd.prog.cellsOf 123 = 2 := by kernel_rfl
theorem fcells140 : Tryd.prog.cellsOf 140 = 2 := by kernel_rfl
theorem fcells156 : Tryd.prog.cellsOf 156 = 2 := by kernel_rfl
theorem fcells162 : Tryd.prog.cellsOf 162 = 8 := by kernel_rfl
theorem fcells167 : Tryd.prog.cellsOf 167 = 32 := by kernel_rfl
theorem fbytes2 : Tryd.prog.bytesOf 2 = 8 := by kernel_rfl
theorem fbytes3 : Tryd.prog.bytesOf 3 = 8 := by kernel_rfl
theorem fbytes29 : Tryd.prog.bytesOf 29 = 192 := by kernel_rfl
theorem fbytes30 : Tryd.prog.bytesOf 30 = 24 := by kernel_rfl
theorem fbytes32 : Tryd.prog.bytesOf 32 = 40 := by kernel_rfl
theorem fbytes62 : Tryd.prog.bytesOf 62 = 8 := by kernel_rfl
theorem fbytes70 : Tryd.prog.bytesOf 70 = 48 := by kernel_rfl
theorem fbytes107 : Tryd.prog.bytesOf 107 = 32 := by kernel_rfl
theorem fbytes112 : Tryd.prog.bytesOf 112 = 4 := by kernel_rfl
theorem fbytes114 : Tryd.prog.bytesOf 114 = 40 := by kernel_rfl
theorem fbytes117 : Tryd.prog.bytesOf 117 = 24 := by kernel_rfl
theorem fbytes123 : Tryd.prog.bytesOf 123 = 32 := by kernel_rfl
theorem fbytes140 : Tryd.prog.bytesOf 140 = 16 := by kernel_rfl
theorem frow2 : isRowT Tryd.prog 2 = some false := by kernel_rfl
theorem frow3 : isRowT Tryd.prog 3 = some false := by kernel_rfl
theorem frow4 : isRowT Tryd.prog 4 = some false := by kernel_rfl
theorem frow5 : isRowT Tryd.prog 5 = some false := by kernel_rfl
theorem frow22 : isRowT Tryd.prog 22 = some false := by kernel_rfl
theorem frow23 : isRowT Tryd.prog 23 = some false := by kernel_rfl
theorem frow24 : isRowT Tryd.prog 24 = some false := by kernel_rfl
theorem frow25 : isRowT Tryd.prog 25 = some false := by kernel_rfl
theorem frow26 : isRowT Tryd.prog 26 = some false := by kernel_rfl
theorem frow27 : isRowT Tryd.prog 27 = some false := by kernel_rfl
theorem frow29 : isRowT Tryd.prog 29 = some true := by kernel_rfl
theorem frow30 : isRowT Tryd.prog 30 = some false := by kernel_rfl
theorem frow32 : isRowT Tryd.prog 32 = some true := by kernel_rfl
theorem frow55 : isRowT Tryd.prog 55 = some false := by kernel_rfl
theorem frow56 : isRowT Tryd.prog 56 = some false := by kernel_rfl
theorem frow57 : isRowT Tryd.prog 57 = some false := by kernel_rfl
theorem frow59 : isRowT Tryd.prog 59 = some true := by kernel_rfl
theorem frow61 : isRowT Tryd.prog 61 = some true := by kernel_rfl
theorem frow62 : isRowT Tryd.prog 62 = some false := by kernel_rfl
theorem frow70 : isRowT Tryd.prog 70 = some true := by kernel_rfl
theorem frow82 : isRowT Tryd.prog 82 = some true := by kernel_rfl
theorem frow83 : isRowT Tryd.prog 83 = some true := by kernel_rfl
theorem frow87 : isRowT Tryd.prog 87 = some true := by kernel_rfl
theorem frow107 : isRowT Tryd.prog 107 = some true := by kernel_rfl
theorem frow112 : isRowT Tryd.prog 112 = some false := by kernel_rfl
theorem frow114 : isRowT Tryd.prog 114 = some true := by kernel_rfl
theorem frow117 : isRowT Tryd.prog 117 = some true := by kernel_rfl
theorem frow123 : isRowT Tryd.prog 123 = some true := by kernel_rfl
theorem frow140 : isRowT Tryd.prog 140 = some true := by kernel_rfl
theorem frow156 : isRowT Tryd.prog 156 = some true := by kernel_rfl
theorem frow167 : isRowT Tryd.prog 167 = some true := by kernel_rfl
theorem fzero2 : zeroV Tryd.prog 2 = some (.int .i64 0) := by kernel_rfl
theorem fzero3 : zeroV Tryd.prog 3 = some (.int .i64 0) := by kernel_rfl
theorem fzero4 : zeroV Tryd.prog 4 = some (.bool false) := by kernel_rfl
theorem fzero5 : zeroV Tryd.prog 5 = some (.int .u8 0) := by kernel_rfl
theorem fzero29 : zeroV Tryd.prog 29 = some (.agg [.int .i64 0, .nilS, .nilS, .nilS, .nilS, .nilS, .int .i64 0, .int .i64 0, .int .i64 0, .int .i64 0, .int .i64 0, .nilS]) := by kernel_rfl
theorem fzero30 : zeroV Tryd.prog 30 = some (.nilS) := by kernel_rfl
theorem fzero32 : zeroV Tryd.prog 32 = some (.agg [.int .i64 0, .int .i64 0, .nilS]) := by kernel_rfl
theorem fzero59 : zeroV Tryd.prog 59 = some (.agg [.nilS, .nilS, .nilS, .int .i64 0, .int .i64 0, .int .i64 0]) := by kernel_rfl
theorem fzero61 : zeroV Tryd.prog 61 = some (.agg [.bool false, .int .i64 0]) := by kernel_rfl
theorem fzero62 : zeroV Tryd.prog 62 = some (.nilF) := by kernel_rfl
theorem fzero70 : zeroV Tryd.prog 70 = some (.agg [.int .i64 0, .int .i64 0, .int .i64 0, .nilS]) := by kernel_rfl
theorem fzero82 : zeroV Tryd.prog 82 = some (.agg [.int .i64 0, .int .i64 0, .int .i64 0, .int .i64 0, .int .i64 0]) := by kernel_rfl
theorem fzero83 : zeroV Tryd.prog 83 = some (.agg [.int .i64 0, .int .i64 0, .int .i64 0, .int .i64 0, .int .i64 0]) := by kernel_rfl
theorem fzero87 : zeroV Tryd.prog 87 = some (.agg [.int .i64 0, .int .i64 0, .int .i64 0]) := by kernel_rfl
theorem fzero107 : zeroV Tryd.prog 107 = some (.agg [.int .i64 0, .int .i64 0, .int .i64 0, .int .i64 0]) := by kernel_rfl
theorem fzero112 : zeroV Tryd.prog 112 = some (.int .u32 0) := by kernel_rfl
theorem fzero114 : zeroV Tryd.prog 114 = some (.agg [.int .u32 0, .int .i64 0, .int .i64 0, .int .i64 0, .bool false]) := by kernel_rfl
theorem fzero117 : zeroV Tryd.prog 117 = some (.agg [.int .u8 0, .int .i64 0, .int .i64 0]) := by kernel_rfl
theorem fzero123 : zeroV Tryd.prog 123 = some (.agg [.nilS, .int .i64 0]) := by kernel_rfl
theorem fzero140 : zeroV Tryd.prog 140 = some (.agg [.int .i64 0, .int .i64 0]) := by kernel_rfl
theorem fzero156 : zeroV Tryd.prog 156 = some (.agg [.int .i64 0, .int .i64 0]) := by kernel_rfl
theorem fzero162 : zeroV Tryd.prog 162 = some (.agg [.int .i64 0, .int .i64 0, .int .i64 0, .int .i64 0, .int .i64 0, .int .i64 0, .int .i64 0, .int .i64 0]) := by kernel_rfl
theorem fzero167 : zeroV Tryd.prog 167 = some (.agg [.int .u8 0, .int .u8 0, .int .u8 0, .int .u8 0, .int .u8 0, .int .u8 0, .int .u8 0, .int .u8 0, .int .u8 0, .int .u8 0, .int .u8 0, .int .u8 0, .int .u8 0, .int .u8 0, .int .u8 0, .int .u8 0, .int .u8 0, .int .u8 0, .int .u8 0, .int .u8 0, .int .u8 0, .int .u8 0, .int .u8 0, .int .u8 0, .int .u8 0, .int .u8 0, .int .u8 0, .int .u8 0, .int .u8 0, .int .u8 0, .int .u8 0, .int .u8 0]) := by kernel_rfl
theorem fpl29 : plF Tryd.prog 29 = some (fun i => [(0, 1), (1, 1), (2, 1), (3, 1), (4, 1), (5, 1), (6, 1), (7, 1), (8, 1), (9, 1), (10, 1), (11, 1)].toArray[i]?) := by kernel_rfl
theorem fpl32 : plF Tryd.prog 32 = some (fun i => [(0, 1), (1, 1), (2, 1)].toArray[i]?) := by kernel_rfl
theorem fpl59 : plF Tryd.prog 59 = some (fun i => [(0, 1), (1, 1), (2, 1), (3, 1), (4, 1), (5, 1)].toArray[i]?) := by kernel_rfl
theorem fpl61 : plF Tryd.prog 61 = some (fun i => [(0, 1), (1, 1)].toArray[i]?) := by kernel_rfl
theorem fpl70 : plF Tryd.prog 70 = some (fun i => [(0, 1), (1, 1), (2, 1), (3, 1)].toArray[i]?) := by kernel_rfl
theorem fpl82 : plF Tryd.prog 82 = some (fun i => some (i * 1, 1)) := by kernel_rfl
theorem fpl83 : plF Tryd.prog 83 = some (fun i => some (i * 1, 1)) := by kernel_rfl
theorem fpl87 : plF Tryd.prog 87 = some (fun i => [(0, 1), (1, 1), (2, 1)].toArray[i]?) := by kernel_rfl
theorem fpl114 : plF Tryd.prog 114 = some (fun i => [(0, 1), (1, 1), (2, 1), (3, 1), (4, 1)].toArray[i]?) := by kernel_rfl
theorem fpl117 : plF Tryd.prog 117 = some (fun i => [(0, 1), (1, 1), (2, 1)].toArray[i]?) := by kernel_rfl
theorem fpl123 : plF Tryd.prog 123 = some (fun i => [(0, 1), (1, 1)].toArray[i]?) := by kernel_rfl
theorem fpl140 : plF Tryd.prog 140 = some (fun i => [(0, 1), (1, 1)].toArray[i]?) := by kernel_rfl
theorem fpl156 : plF Tryd.prog 156 = some (fun i => some (i * 1, 1)) := by kernel_rfl
theorem fpl167 : plF Tryd.prog 167 = some (fun i => some (i * 1, 1)) := by kernel_rfl
theorem ffld140a0 : fldOf Tryd.prog 140 0 = some (0, 3) := by kernel_rfl
theorem ffld117a0 : fldOf Tryd.prog 117 0 = some (0, 5) := by kernel_rfl
theorem ffld117a2 : fldOf Tryd.prog 117 2 = some (2, 3) := by kernel_rfl
theorem ffld114a3 : fldOf Tryd.prog 114 3 = some (3, 3) := by kernel_rfl
theorem ffld114a2 : fldOf Tryd.prog 114 2 = some (2, 3) := by kernel_rfl
theorem ffld117a1 : fldOf Tryd.prog 117 1 = some (1, 3) := by kernel_rfl
theorem ffld29a5 : fldOf Tryd.prog 29 5 = some (5, 26) := by kernel_rfl
theorem ffld107a0 : fldOf Tryd.prog 107 0 = some (0, 3) := by kernel_rfl
theorem ffld107a1 : fldOf Tryd.prog 107 1 = some (1, 3) := by kernel_rfl
theorem ffld107a2 : fldOf Tryd.prog 107 2 = some (2, 3) := by kernel_rfl
theorem ffld107a3 : fldOf Tryd.prog 107 3 = some (3, 3) := by kernel_rfl
theorem ffld29a6 : fldOf Tryd.prog 29 6 = some (6, 3) := by kernel_rfl
theorem ffld29a7 : fldOf Tryd.prog 29 7 = some (7, 3) := by kernel_rfl
theorem ffld29a8 : fldOf Tryd.prog 29 8 = some (8, 3) := by kernel_rfl
theorem ffld61a0 : fldOf Tryd.prog 61 0 = some (0, 4) := by kernel_rfl
theorem ffld61a1 : fldOf Tryd.prog 61 1 = some (1, 3) := by kernel_rfl
theorem ffld123a1 : fldOf Tryd.prog 123 1 = some (1, 3) := by kernel_rfl
theorem ffld59a0 : fldOf Tryd.prog 59 0 = some (0, 55) := by kernel_rfl
theorem ffld70a0 : fldOf Tryd.prog 70 0 = some (0, 3) := by kernel_rfl
theorem ffld70a1 : fldOf Tryd.prog 70 1 = some (1, 3) := by kernel_rfl
theorem ffld59a1 : fldOf Tryd.prog 59 1 = some (1, 56) := by kernel_rfl
theorem ffld70a2 : fldOf Tryd.prog 70 2 = some (2, 3) := by kernel_rfl
theorem ffld123a0 : fldOf Tryd.prog 123 0 = some (0, 30) := by kernel_rfl
theorem ffld29a0 : fldOf Tryd.prog 29 0 = some (0, 3) := by kernel_rfl
theorem ffld59a4 : fldOf Tryd.prog 59 4 = some (4, 3) := by kernel_rfl
theorem ffld59a5 : fldOf Tryd.prog 59 5 = some (5, 3) := by kernel_rfl
theorem ffld29a11 : fldOf Tryd.prog 29 11 = some (11, 27) := by kernel_rfl
theorem ffld140a1 : fldOf Tryd.prog 140 1 = some (1, 2) := by kernel_rfl
theorem ffld59a2 : fldOf Tryd.prog 59 2 = some (2, 57) := by kernel_rfl
theorem ffld70a3 : fldOf Tryd.prog 70 3 = some (3, 30) := by kernel_rfl
theorem ffld29a1 : fldOf Tryd.prog 29 1 = some (1, 22) := by kernel_rfl
theorem ffld59a3 : fldOf Tryd.prog 59 3 = some (3, 3) := by kernel_rfl
theorem ffld87a1 : fldOf Tryd.prog 87 1 = some (1, 3) := by kernel_rfl
theorem ffld87a2 : fldOf Tryd.prog 87 2 = some (2, 3) := by kernel_rfl
theorem ffld87a0 : fldOf Tryd.prog 87 0 = some (0, 3) := by kernel_rfl
theorem ffld29a9 : fldOf Tryd.prog 29 9 = some (9, 3) := by kernel_rfl
theorem ffld32a1 : fldOf Tryd.prog 32 1 = some (1, 3) := by kernel_rfl
theorem ffld32a0 : fldOf Tryd.prog 32 0 = some (0, 3) := by kernel_rfl
theorem ffld114a1 : fldOf Tryd.prog 114 1 = some (1, 3) := by kernel_rfl
theorem ffld29a10 : fldOf Tryd.prog 29 10 = some (10, 3) := by kernel_rfl
theorem ffld32a2 : fldOf Tryd.prog 32 2 = some (2, 30) := by kernel_rfl
theorem ffld114a0 : fldOf Tryd.prog 114 0 = some (0, 112) := by kernel_rfl
theorem ffld29a2 : fldOf Tryd.prog 29 2 = some (2, 23) := by kernel_rfl
theorem ffld29a3 : fldOf Tryd.prog 29 3 = some (3, 24) := by kernel_rfl
theorem ffld29a4 : fldOf Tryd.prog 29 4 = some (4, 25) := by kernel_rfl
theorem fmap154 : mapOf Tryd.prog 154 = some (false, 3, 4) := by kernel_rfl
theorem fmap155 : mapOf Tryd.prog 155 = some (true, 156, 4) := by kernel_rfl
theorem fflat61 : flatTys Tryd.prog 61 = some [0, 1] := by kernel_rfl
theorem fflat87 : flatTys Tryd.prog 87 = some [1, 1, 1] := by kernel_rfl
theorem fflat107 : flatTys Tryd.prog 107 = some [1, 1, 1, 1] := by kernel_rfl
theorem fflat114 : flatTys Tryd.prog 114 = some [1, 1, 1, 1, 0] := by kernel_rfl
theorem fflat117 : flatTys Tryd.prog 117 = some [1, 1, 1] := by kernel_rfl
attribute [go_sem] felem22 felem23 felem24 felem25 felem26 felem27 felem30 felem49 felem55 felem56 felem57 felem127 felem141 farr82 farr83 farr162 farr167 felem82 felem83 felem162 felem167 fcells2 fcells3 fcells4 fcells5 fcells22 fcells23 fcells24 fcells25 fcells26 fcells27 fcells29 fcells30 fcells32 fcells55 fcells56 fcells57 fcells59 fcells61 fcells62 fcells70 fcells82 fcells83 fcells87 fcells107 fcells112 fcells114 fcells117 fcells123 fcells140 fcells156 fcells162 fcells167 fbytes2 fbytes3 fbytes29 fbytes30 fbytes32 fbytes62 fbytes70 fbytes107 fbytes112 fbytes114 fbytes117 fbytes123 fbytes140 frow2 frow3 frow4 frow5 frow22 frow23 frow24 frow25 frow26 frow27 frow29 frow30 frow32 frow55 frow56 frow57 frow59 frow61 frow62 frow70 frow82 frow83 frow87 frow107 frow112 frow114 frow117 frow123 frow140 frow156 frow167 fzero2 fzero3 fzero4 fzero5 fzero29 fzero30 fzero32 fzero59 fzero61 fzero62 fzero70 fzero82 fzero83 fzero87 fzero107 fzero112 fzero114 fzero117 fzero123 fzero140 fzero156 fzero162 fzero167 fpl29 fpl32 fpl59 fpl61 fpl70 fpl82 fpl83 fpl87 fpl114 fpl117 fpl123 fpl140 fpl156 fpl167 ffld140a0 ffld117a0 ffld117a2 ffld114a3 ffld114a2 ffld117a1 ffld29a5 ffld107a0 ffld107a1 ffld107a2 ffld107a3 ffld29a6 ffld29a7 ffld29a8 ffld61a0 ffld61a1 ffld123a1 ffld59a0 ffld70a0 ffld70a1 ffld59a1 ffld70a2 ffld123a0 ffld29a0 ffld59a4 ffld59a5 ffld29a11 ffld140a1 ffld59a2 ffld70a3 ffld29a1 ffld59a3 ffld87a1 ffld87a2 ffld87a0 ffld29a9 ffld32a1 ffld32a0 ffld114a1 ffld29a10 ffld32a2 ffld114a0 ffld29a2 ffld29a3 ffld29a4 fmap154 fmap155 fflat61 fflat87 fflat107 fflat114 fflat117 Tryd.underlying2 Tryd.underlying3 Tryd.underlying4 Tryd.underlying5 Tryd.underlying36 Tryd.underlying112 Tryd.underlying146
end Go.Proofs.YthjojamcolmbdaaDoor
