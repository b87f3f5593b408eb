/- Closed facts on the types of the translation, printed by a program. -/
import Derived.Test.YtdeionjkcmpnpaaDoorAmSimp
import Derived.Test.YtdeionjkcmpnpaaDoorChecked
namespace Go.Proofs.YtdeionjkcmpnpaaDoor
open Go.AM
theorem mixed : Tryd.prog.follows .mixedOrders = true := Tryd.checked.mixed
theorem felem22 : elemOfT Tryd.prog 22 = some 121 := by kernel_rfl
theorem felem23 : elemOfT Tryd.prog 23 = some 122 := by kernel_rfl
theorem felem24 : elemOfT Tryd.prog 24 = some 34 := by kernel_rfl
theorem felem25 : elemOfT Tryd.prog 25 = some 124 := by kernel_rfl
theorem felem26 : elemOfT Tryd.prog 26 = some 127 := by kernel_rfl
theorem felem27 : elemOfT Tryd.prog 27 = some 36 := by kernel_rfl
theorem felem32 : elemOfT Tryd.prog 32 = some 2 := by kernel_rfl
theorem felem34 : elemOfT Tryd.prog 34 = some 3 := by kernel_rfl
theorem felem52 : elemOfT Tryd.prog 52 = some 5 := by kernel_rfl
theorem felem73 : elemOfT Tryd.prog 73 = some 29 := by kernel_rfl
theorem felem74 : elemOfT Tryd.prog 74 = some 101 := by kernel_rfl
theorem felem75 : elemOfT Tryd.prog 75 = some 104 := by kernel_rfl
theorem felem78 : elemOfT Tryd.prog 78 = some 152 := by kernel_rfl
theorem felem79 : elemOfT Tryd.prog 79 = some 31 := by kernel_rfl
theorem felem112 : elemOfT Tryd.prog 112 = some 111 := by kernel_rfl
theorem felem158 : elemOfT Tryd.prog 158 = some 1 := by kernel_rfl
theorem felem159 : elemOfT Tryd.prog 159 = some 80 := by kernel_rfl
theorem felem178 : elemOfT Tryd.prog 178 = some 177 := by kernel_rfl
theorem felem182 : elemOfT Tryd.prog 182 = some 4 := by kernel_rfl
theorem farr197 : arrOfT Tryd.prog 197 = some (16, 122) := by kernel_rfl
theorem farr208 : arrOfT Tryd.prog 208 = some (32, 5) := by kernel_rfl
theorem felem197 : elemOfT Tryd.prog 197 = none := by kernel_rfl
theorem felem208 : elemOfT Tryd.prog 208 = none := by kernel_rfl
theorem fcells1 : Tryd.prog.cellsOf 1 = 1 := by kernel_rfl
theorem fcells2 : Tryd.prog.cellsOf 2 = 1 := by kernel_rfl
theorem fcells3 : Tryd.prog.cellsOf 3 = 1 := by kernel_rfl
theorem fcells4 : Tryd.prog.cellsOf 4 = 1 := by kernel_rfl
theorem fcells5 : Tryd.prog.cellsOf 5 = 1 := by kernel_rfl
theorem fcells22 : Tryd.prog.cellsOf 22 = 1 := by kernel_rfl
theorem fcells23 : Tryd.prog.cellsOf 23 = 1 := by kernel_rfl
theorem fcells24 : Tryd.prog.cellsOf 24 = 1 := by kernel_rfl
theorem fcells25 : Tryd.prog.cellsOf 25 = 1 := by kernel_rfl
theorem fcells26 : Tryd.prog.cellsOf 26 = 1 := by kernel_rfl
theorem fcells27 : Tryd.prog.cellsOf 27 = 1 := by kernel_rfl
theorem fcells29 : Tryd.prog.cellsOf 29 = 12 := by kernel_rfl
theorem fcells31 : Tryd.prog.cellsOf 31 = 3 := by kernel_rfl
theorem fcells34 : Tryd.prog.cellsOf 34 = 1 := by kernel_rfl
theorem fcells36 : Tryd.prog.cellsOf 36 = 3 := by kernel_rfl
theorem fcells52 : Tryd.prog.cellsOf 52 = 1 := by kernel_rfl
theorem fcells73 : Tryd.prog.cellsOf 73 = 1 := by kernel_rfl
theorem fcells74 : Tryd.prog.cellsOf 74 = 1 := by kernel_rfl
theorem fcells75 : Tryd.prog.cellsOf 75 = 1 := by kernel_rfl
theorem fcells77 : Tryd.prog.cellsOf 77 = 6 := by kernel_rfl
theorem fcells80 : Tryd.prog.cellsOf 80 = 1 := by kernel_rfl
theorem fcells101 : Tryd.prog.cellsOf 101 = 2 := by kernel_rfl
theorem fcells104 : Tryd.prog.cellsOf 104 = 4 := by kernel_rfl
theorem fcells111 : Tryd.prog.cellsOf 111 = 2 := by kernel_rfl
theorem fcells121 : Tryd.prog.cellsOf 121 = 3 := by kernel_rfl
theorem fcells122 : Tryd.prog.cellsOf 122 = 1 := by kernel_rfl
theorem fcells124 : Tryd.prog.cellsOf 124 = 5 := by kernel_rfl
theorem fcells127 : Tryd.prog.cellsOf 127 = 4 := by kernel_rfl
theorem fcells133 : Tryd.prog.cellsOf 133 = 2 := by kernel_rfl
theorem fcells135 : Tryd.prog.cellsOf 135 = 14 := by kernel_rfl
theorem fcells139 : Tryd.prog.cellsOf 139 = 2 := by kernel_rfl
theorem fcells152 : Tryd.prog.cellsOf 152 = 2 := by kernel_rfl
theorem fcells157 : Tryd.prog.cellsOf 157 = 8 := by kernel_rfl
theorem fcells177 : Tryd.prog.cellsOf 177 = 1 := by kernel_rfl
theorem fcells188 : Tryd.prog.cellsOf 188 = 2 := by kernel_rfl
theorem fcells197 : Tryd.prog.cellsOf 197 = 16 := by kernel_rfl
theorem fcells208 : Tryd.prog.cellsOf 208 = 32 := by kernel_rfl
theorem fbytes1 : Tryd.prog.bytesOf 1 = 8 := by kernel_rfl
theorem fbytes2 : Tryd.prog.bytesOf 2 = 8 := by kernel_rfl
theorem fbytes3 : Tryd.prog.bytesOf 3 = 8 := by kernel_rfl
theorem fbytes4 : Tryd.prog.bytesOf 4 = 1 := by kernel_rfl
theorem fbytes5 : Tryd.prog.bytesOf 5 = 1 := by kernel_rfl
theorem fbytes29 : Tryd.prog.bytesOf 29 = 192 := by kernel_rfl
theorem fbytes31 : Tryd.prog.bytesOf 31 = 24 := by kernel_rfl
theorem fbytes34 : Tryd.prog.bytesOf 34 = 24 := by kernel_rfl
theorem fbytes36 : Tryd.prog.bytesOf 36 = 40 := by kernel_rfl
theorem fbytes80 : Tryd.prog.bytesOf 80 = 8 := by kernel_rfl
theorem fbytes101 : Tryd.prog.bytesOf 101 = 32 := by kernel_rfl
theorem fbytes104 : Tryd.prog.bytesOf 104 = 48 := by kernel_rfl
theorem fbytes111 : Tryd.prog.bytesOf 111 = 16 := by kernel_rfl
theorem fbytes121 : Tryd.prog.bytesOf 121 = 24 := by kernel_rfl
theorem fbytes122 : Tryd.prog.bytesOf 122 = 4 := by kernel_rfl
theorem fbytes124 : Tryd.prog.bytesOf 124 = 40 := by kernel_rfl
theorem fbytes127 : Tryd.prog.bytesOf 127 = 32 := by kernel_rfl
theorem fbytes152 : Tryd.prog.bytesOf 152 = 16 := by kernel_rfl
theorem fbytes177 : Tryd.prog.bytesOf 177 = 8 := by kernel_rfl
theorem frow1 : isRowT Tryd.prog 1 = some false := by kernel_rfl
theorem frow2 : isRowT Tryd.prog 2 = some false := by kernel_rfl
theorem frow3 : isRowT Tryd.prog 3 = some false := by kernel_rfl
theorem frow4 : isRowT Tryd.prog 4 = some false := by kernel_rfl
theorem frow5 : isRowT Tryd.prog 5 = some false := by kernel_rfl
theorem frow22 : isRowT Tryd.prog 22 = some false := by kernel_rfl
theorem frow23 : isRowT Tryd.prog 23 = some false := by kernel_rfl
theorem frow24 : isRowT Tryd.prog 24 = some false := by kernel_rfl
theorem frow25 : isRowT Tryd.prog 25 = some false := by kernel_rfl
theorem frow26 : isRowT Tryd.prog 26 = some false := by kernel_rfl
theorem frow27 : isRowT Tryd.prog 27 = some false := by kernel_rfl
theorem frow29 : isRowT Tryd.prog 29 = some true := by kernel_rfl
theorem frow31 : isRowT Tryd.prog 31 = some true := by kernel_rfl
theorem frow34 : isRowT Tryd.prog 34 = some false := by kernel_rfl
theorem frow36 : isRowT Tryd.prog 36 = some true := by kernel_rfl
theorem frow52 : isRowT Tryd.prog 52 = some false := by kernel_rfl
theorem frow73 : isRowT Tryd.prog 73 = some false := by kernel_rfl
theorem frow74 : isRowT Tryd.prog 74 = some false := by kernel_rfl
theorem frow75 : isRowT Tryd.prog 75 = some false := by kernel_rfl
theorem frow77 : isRowT Tryd.prog 77 = some true := by kernel_rfl
theorem frow80 : isRowT Tryd.prog 80 = some false := by kernel_rfl
theorem frow101 : isRowT Tryd.prog 101 = some true := by kernel_rfl
theorem frow104 : isRowT Tryd.prog 104 = some true := by kernel_rfl
theorem frow111 : isRowT Tryd.prog 111 = some true := by kernel_rfl
theorem frow121 : isRowT Tryd.prog 121 = some true := by kernel_rfl
theorem frow122 : isRowT Tryd.prog 122 = some false := by kernel_rfl
theorem frow124 : isRowT Tryd.prog 124 = some true := by kernel_rfl
theorem frow127 : isRowT Tryd.prog 127 = some true := by kernel_rfl
theorem frow133 : isRowT Tryd.prog 133 = some true := by kernel_rfl
theorem frow152 : isRowT Tryd.prog 152 = some true := by kernel_rfl
theorem frow177 : isRowT Tryd.prog 177 = some false := by kernel_rfl
theorem frow188 : isRowT Tryd.prog 188 = some true := by kernel_rfl
theorem frow197 : isRowT Tryd.prog 197 = some true := by kernel_rfl
theorem frow208 : isRowT Tryd.prog 208 = some true := by kernel_rfl
theorem fzero1 : zeroV Tryd.prog 1 = some (.nilF) := by kernel_rfl
theorem fzero2 : zeroV Tryd.prog 2 = some (.int .i64 0) := by kernel_rfl
theorem fzero3 : zeroV Tryd.prog 3 = some (.int .i64 0) := by kernel_rfl
theorem fzero4 : zeroV Tryd.prog 4 = some (.bool false) := by kernel_rfl
theorem fzero5 : zeroV Tryd.prog 5 = some (.int .u8 0) := by kernel_rfl
theorem fzero29 : zeroV Tryd.prog 29 = some (.agg [.int .i64 0, .nilS, .nilS, .nilS, .nilS, .nilS, .int .i64 0, .int .i64 0, .int .i64 0, .int .i64 0, .int .i64 0, .nilS]) := by kernel_rfl
theorem fzero31 : zeroV Tryd.prog 31 = some (.agg [.int .i64 0, .int .i64 0, .int .i64 0]) := by kernel_rfl
theorem fzero34 : zeroV Tryd.prog 34 = some (.nilS) := by kernel_rfl
theorem fzero36 : zeroV Tryd.prog 36 = some (.agg [.int .i64 0, .int .i64 0, .nilS]) := by kernel_rfl
theorem fzero77 : zeroV Tryd.prog 77 = some (.agg [.nilS, .nilS, .nilS, .int .i64 0, .int .i64 0, .int .i64 0]) := by kernel_rfl
theorem fzero80 : zeroV Tryd.prog 80 = some (.nilF) := by kernel_rfl
theorem fzero101 : zeroV Tryd.prog 101 = some (.agg [.nilS, .int .i64 0]) := by kernel_rfl
theorem fzero104 : zeroV Tryd.prog 104 = some (.agg [.int .i64 0, .int .i64 0, .int .i64 0, .nilS]) := by kernel_rfl
theorem fzero111 : zeroV Tryd.prog 111 = some (.agg [.int .i64 0, .int .i64 0]) := by kernel_rfl
theorem fzero121 : zeroV Tryd.prog 121 = some (.agg [.int .u8 0, .int .i64 0, .int .i64 0]) := by kernel_rfl
theorem fzero122 : zeroV Tryd.prog 122 = some (.int .u32 0) := by kernel_rfl
theorem fzero124 : zeroV Tryd.prog 124 = some (.agg [.int .u32 0, .int .i64 0, .int .i64 0, .int .i64 0, .bool false]) := by kernel_rfl
theorem fzero127 : zeroV Tryd.prog 127 = some (.agg [.int .i64 0, .int .i64 0, .int .i64 0, .int .i64 0]) := by kernel_rfl
theorem fzero133 : zeroV Tryd.prog 133 = some (.agg [.nilS, .bool false]) := by kernel_rfl
theorem fzero135 : zeroV Tryd.prog 135 = some (.agg [.nilS, .bool false, .int .i64 0, .nilS, .nilS, .nilS, .nilS, .nilS, .int .i64 0, .int .i64 0, .int .i64 0, .int .i64 0, .int .i64 0, .nilS]) := by kernel_rfl
theorem fzero139 : zeroV Tryd.prog 139 = some (.agg [.nilS, .bool false]) := by kernel_rfl
theorem fzero152 : zeroV Tryd.prog 152 = some (.agg [.bool false, .int .i64 0]) := by kernel_rfl
theorem fzero157 : zeroV Tryd.prog 157 = some (.agg [.nilS, .bool false, .nilS, .nilS, .nilS, .int .i64 0, .int .i64 0, .int .i64 0]) := by kernel_rfl
theorem fzero177 : zeroV Tryd.prog 177 = some (.nilP) := by kernel_rfl
theorem fzero188 : zeroV Tryd.prog 188 = some (.agg [.int .i64 0, .int .i64 0]) := by kernel_rfl
theorem fzero197 : zeroV Tryd.prog 197 = some (.agg [.int .u32 0, .int .u32 0, .int .u32 0, .int .u32 0, .int .u32 0, .int .u32 0, .int .u32 0, .int .u32 0, .int .u32 0, .int .u32 0, .int .u32 0, .int .u32 0, .int .u32 0, .int .u32 0, .int .u32 0, .int .u32 0]) := by kernel_rfl
theorem fzero208 : zeroV Tryd.prog 208 = some (.agg [.int .u8 0, .int .u8 0, .int .u8 0, .int .u8 0, .int .u8 0, .int .u8 0, .int .u8 0, .int .u8 0, .int .u8 0, .int .u8 0, .int .u8 0, .int .u8 0, .int .u8 0, .int .u8 0, .int .u8 0, .int .u8 0, .int .u8 0, .int .u8 0, .int .u8 0, .int .u8 0, .int .u8 0, .int .u8 0, .int .u8 0, .int .u8 0, .int .u8 0, .int .u8 0, .int .u8 0, .int .u8 0, .int .u8 0, .int .u8 0, .int .u8 0, .int .u8 0]) := by kernel_rfl
theorem fpl29 : plF Tryd.prog 29 = some (fun i => [(0, 1), (1, 1), (2, 1), (3, 1), (4, 1), (5, 1), (6, 1), (7, 1), (8, 1), (9, 1), (10, 1), (11, 1)].toArray[i]?) := by kernel_rfl
theorem fpl31 : plF Tryd.prog 31 = some (fun i => [(0, 1), (1, 1), (2, 1)].toArray[i]?) := by kernel_rfl
theorem fpl36 : plF Tryd.prog 36 = some (fun i => [(0, 1), (1, 1), (2, 1)].toArray[i]?) := by kernel_rfl
theorem fpl77 : plF Tryd.prog 77 = some (fun i => [(0, 1), (1, 1), (2, 1), (3, 1), (4, 1), (5, 1)].toArray[i]?) := by kernel_rfl
theorem fpl101 : plF Tryd.prog 101 = some (fun i => [(0, 1), (1, 1)].toArray[i]?) := by kernel_rfl
theorem fpl104 : plF Tryd.prog 104 = some (fun i => [(0, 1), (1, 1), (2, 1), (3, 1)].toArray[i]?) := by kernel_rfl
theorem fpl111 : plF Tryd.prog 111 = some (fun i => [(0, 1), (1, 1)].toArray[i]?) := by kernel_rfl
theorem fpl121 : plF Tryd.prog 121 = some (fun i => [(0, 1), (1, 1), (2, 1)].toArray[i]?) := by kernel_rfl
theorem fpl124 : plF Tryd.prog 124 = some (fun i => [(0, 1), (1, 1), (2, 1), (3, 1), (4, 1)].toArray[i]?) := by kernel_rfl
theorem fpl127 : plF Tryd.prog 127 = some (fun i => [(0, 1), (1, 1), (2, 1), (3, 1)].toArray[i]?) := by kernel_rfl
theorem fpl133 : plF Tryd.prog 133 = some (fun i => [(0, 1), (1, 1)].toArray[i]?) := by kernel_rfl
theorem fpl135 : plF Tryd.prog 135 = some (fun i => [(0, 2), (2, 12)].toArray[i]?) := by kernel_rfl
theorem fpl139 : plF Tryd.prog 139 = some (fun i => [(0, 1), (1, 1)].toArray[i]?) := by kernel_rfl
theorem fpl157 : plF Tryd.prog 157 = some (fun i => [(0, 1), (1, 1), (2, 6)].toArray[i]?) := by kernel_rfl
theorem fpl188 : plF Tryd.prog 188 = some (fun i => some (i * 1, 1)) := by kernel_rfl
theorem fpl197 : plF Tryd.prog 197 = some (fun i => some (i * 1, 1)) := by kernel_rfl
theorem fpl208 : plF Tryd.prog 208 = some (fun i => some (i * 1, 1)) := by kernel_rfl
theorem ffld111a0 : fldOf Tryd.prog 111 0 = some (0, 3) := by kernel_rfl
theorem ffld111a1 : fldOf Tryd.prog 111 1 = some (1, 2) := by kernel_rfl
theorem ffld31a1 : fldOf Tryd.prog 31 1 = some (1, 3) := by kernel_rfl
theorem ffld31a2 : fldOf Tryd.prog 31 2 = some (2, 3) := by kernel_rfl
theorem ffld135a1 : fldOf Tryd.prog 135 1 = some (2, 29) := by kernel_rfl
theorem ffld135a0 : fldOf Tryd.prog 135 0 = some (0, 133) := by kernel_rfl
theorem ffld124a4 : fldOf Tryd.prog 124 4 = some (4, 4) := by kernel_rfl
theorem ffld31a0 : fldOf Tryd.prog 31 0 = some (0, 3) := by kernel_rfl
theorem ffld157a2 : fldOf Tryd.prog 157 2 = some (2, 77) := by kernel_rfl
theorem ffld29a5 : fldOf Tryd.prog 29 5 = some (5, 26) := by kernel_rfl
theorem ffld127a0 : fldOf Tryd.prog 127 0 = some (0, 3) := by kernel_rfl
theorem ffld127a1 : fldOf Tryd.prog 127 1 = some (1, 3) := by kernel_rfl
theorem ffld127a2 : fldOf Tryd.prog 127 2 = some (2, 3) := by kernel_rfl
theorem ffld127a3 : fldOf Tryd.prog 127 3 = some (3, 3) := by kernel_rfl
theorem ffld29a6 : fldOf Tryd.prog 29 6 = some (6, 3) := by kernel_rfl
theorem ffld29a7 : fldOf Tryd.prog 29 7 = some (7, 3) := by kernel_rfl
theorem ffld29a8 : fldOf Tryd.prog 29 8 = some (8, 3) := by kernel_rfl
theorem ffld29a11 : fldOf Tryd.prog 29 11 = some (11, 27) := by kernel_rfl
theorem ffld121a0 : fldOf Tryd.prog 121 0 = some (0, 5) := by kernel_rfl
theorem ffld121a2 : fldOf Tryd.prog 121 2 = some (2, 3) := by kernel_rfl
theorem ffld121a1 : fldOf Tryd.prog 121 1 = some (1, 3) := by kernel_rfl
theorem ffld124a2 : fldOf Tryd.prog 124 2 = some (2, 3) := by kernel_rfl
theorem ffld124a3 : fldOf Tryd.prog 124 3 = some (3, 3) := by kernel_rfl
theorem ffld133a1 : fldOf Tryd.prog 133 1 = some (1, 4) := by kernel_rfl
theorem ffld133a0 : fldOf Tryd.prog 133 0 = some (0, 52) := by kernel_rfl
theorem ffld139a1 : fldOf Tryd.prog 139 1 = some (1, 4) := by kernel_rfl
theorem ffld139a0 : fldOf Tryd.prog 139 0 = some (0, 52) := by kernel_rfl
theorem ffld29a0 : fldOf Tryd.prog 29 0 = some (0, 3) := by kernel_rfl
theorem ffld152a1 : fldOf Tryd.prog 152 1 = some (1, 3) := by kernel_rfl
theorem ffld152a0 : fldOf Tryd.prog 152 0 = some (0, 4) := by kernel_rfl
theorem ffld77a4 : fldOf Tryd.prog 77 4 = some (4, 3) := by kernel_rfl
theorem ffld77a5 : fldOf Tryd.prog 77 5 = some (5, 3) := by kernel_rfl
theorem ffld157a1 : fldOf Tryd.prog 157 1 = some (1, 4) := by kernel_rfl
theorem ffld157a0 : fldOf Tryd.prog 157 0 = some (0, 52) := by kernel_rfl
theorem ffld29a9 : fldOf Tryd.prog 29 9 = some (9, 3) := by kernel_rfl
theorem ffld29a10 : fldOf Tryd.prog 29 10 = some (10, 3) := by kernel_rfl
theorem ffld36a1 : fldOf Tryd.prog 36 1 = some (1, 3) := by kernel_rfl
theorem ffld36a0 : fldOf Tryd.prog 36 0 = some (0, 3) := by kernel_rfl
theorem ffld36a2 : fldOf Tryd.prog 36 2 = some (2, 34) := by kernel_rfl
theorem ffld124a1 : fldOf Tryd.prog 124 1 = some (1, 3) := by kernel_rfl
theorem ffld101a0 : fldOf Tryd.prog 101 0 = some (0, 34) := by kernel_rfl
theorem ffld101a1 : fldOf Tryd.prog 101 1 = some (1, 3) := by kernel_rfl
theorem ffld77a0 : fldOf Tryd.prog 77 0 = some (0, 73) := by kernel_rfl
theorem ffld77a1 : fldOf Tryd.prog 77 1 = some (1, 74) := by kernel_rfl
theorem ffld104a2 : fldOf Tryd.prog 104 2 = some (2, 3) := by kernel_rfl
theorem ffld104a3 : fldOf Tryd.prog 104 3 = some (3, 34) := by kernel_rfl
theorem ffld77a3 : fldOf Tryd.prog 77 3 = some (3, 3) := by kernel_rfl
theorem ffld104a0 : fldOf Tryd.prog 104 0 = some (0, 3) := by kernel_rfl
theorem ffld77a2 : fldOf Tryd.prog 77 2 = some (2, 75) := by kernel_rfl
theorem ffld104a1 : fldOf Tryd.prog 104 1 = some (1, 3) := by kernel_rfl
theorem ffld29a1 : fldOf Tryd.prog 29 1 = some (1, 22) := by kernel_rfl
theorem ffld124a0 : fldOf Tryd.prog 124 0 = some (0, 122) := by kernel_rfl
theorem ffld29a2 : fldOf Tryd.prog 29 2 = some (2, 23) := by kernel_rfl
theorem ffld29a3 : fldOf Tryd.prog 29 3 = some (3, 24) := by kernel_rfl
theorem ffld29a4 : fldOf Tryd.prog 29 4 = some (4, 25) := by kernel_rfl
theorem fmap150 : mapOf Tryd.prog 150 = some (false, 3, 4) := by kernel_rfl
theorem fmap187 : mapOf Tryd.prog 187 = some (true, 188, 4) := by kernel_rfl
theorem fflat31 : flatTys Tryd.prog 31 = some [1, 1, 1] := by kernel_rfl
theorem fflat121 : flatTys Tryd.prog 121 = some [1, 1, 1] := by kernel_rfl
theorem fflat124 : flatTys Tryd.prog 124 = some [1, 1, 1, 1, 0] := by kernel_rfl
theorem fflat127 : flatTys Tryd.prog 127 = some [1, 1, 1, 1] := by kernel_rfl
attribute [go_sem] felem22 felem23 felem24 felem25 felem26 felem27 felem32 felem34 felem52 felem73 felem74 felem75 felem78 felem79 felem112 felem158 felem159 felem178 felem182 farr197 farr208 felem197 felem208 fcells1 fcells2 fcells3 fcells4 fcells5 fcells22 fcells23 fcells24 fcells25 fcells26 fcells27 fcells29 fcells31 fcells34 fcells36 fcells52 fcells73 fcells74 fcells75 fcells77 fcells80 fcells101 fcells104 fcells111 fcells121 fcells122 fcells124 fcells127 fcells133 fcells135 fcells139 fcells152 fcells157 fcells177 fcells188 fcells197 fcells208 fbytes1 fbytes2 fbytes3 fbytes4 fbytes5 fbytes29 fbytes31 fbytes34 fbytes36 fbytes80 fbytes101 fbytes104 fbytes111 fbytes121 fbytes122 fbytes124 fbytes127 fbytes152 fbytes177 frow1 frow2 frow3 frow4 frow5 frow22 frow23 frow24 frow25 frow26 frow27 frow29 frow31 frow34 frow36 frow52 frow73 frow74 frow75 frow77 frow80 frow101 frow104 frow111 frow121 frow122 frow124 frow127 frow133 frow152 frow177 frow188 frow197 frow208 fzero1 fzero2 fzero3 fzero4 fzero5 fzero29 fzero31 fzero34 fzero36 fzero77 fzero80 fzero101 fzero104 fzero111 fzero121 fzero122 fzero124 fzero127 fzero133 fzero135 fzero139 fzero152 fzero157 fzero177 fzero188 fzero197 fzero208 fpl29 fpl31 fpl36 fpl77 fpl101 fpl104 fpl111 fpl121 fpl124 fpl127 fpl133 fpl135 fpl139 fpl157 fpl188 fpl197 fpl208 ffld111a0 ffld111a1 ffld31a1 ffld31a2 ffld135a1 ffld135a0 ffld124a4 ffld31a0 ffld157a2 ffld29a5 ffld127a0 ffld127a1 ffld127a2 ffld127a3 ffld29a6 ffld29a7 ffld29a8 ffld29a11 ffld121a0 ffld121a2 ffld121a1 ffld124a2 ffld124a3 ffld133a1 ffld133a0 ffld139a1 ffld139a0 ffld29a0 ffld152a1 ffld152a0 ffld77a4 ffld77a5 ffld157a1 ffld157a0 ffld29a9 ffld29a10 ffld36a1 ffld36a0 ffld36a2 ffld124a1 ffld101a0 ffld101a1 ffld77a0 ffld77a1 ffld104a2 ffld104a3 ffld77a3 ffld104a0 ffld77a2 ffld104a1 ffld29a1 ffld124a0 ffld29a2 ffld29a3 ffld29a4 fmap150 fmap187 fflat31 fflat121 fflat124 fflat127 Tryd.underlying2 Tryd.underlying3 Tryd.underlying4 Tryd.underlying5 Tryd.underlying9 Tryd.underlying37 Tryd.underlying122 Tryd.underlying170 Tryd.underlying194
end Go.Proofs.YtdeionjkcmpnpaaDoor
