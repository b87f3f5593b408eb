/- Closed facts on the types of the translation, printed by a program. -/
import Derived.Test.YtiibccoaopjoiaaDoorAmSimp
import Derived.Test.YtiibccoaopjoiaaDoorChecked
namespace Go.Proofs.YtiibccoaopjoiaaDoor
open Go.AM
theorem mixed : Tryd.prog.follows .mixedOrders = true := Tryd.checked.mixed
theorem felem22 : elemOfT Tryd.prog 22 = some 107 := by kernel_rfl
theorem felem23 : elemOfT Tryd.prog 23 = some 100 := by kernel_rfl
theorem felem24 : elemOfT Tryd.prog 24 = some 44 := by kernel_rfl
theorem felem25 : elemOfT Tryd.prog 25 = some 102 := by kernel_rfl
theorem felem26 : elemOfT Tryd.prog 26 = some 129 := by kernel_rfl
theorem felem27 : elemOfT Tryd.prog 27 = some 46 := by kernel_rfl
theorem felem30 : elemOfT Tryd.prog 30 = some 5 := by kernel_rfl
theorem felem42 : elemOfT Tryd.prog 42 = some 2 := by kernel_rfl
theorem felem44 : elemOfT Tryd.prog 44 = some 3 := by kernel_rfl
theorem felem81 : elemOfT Tryd.prog 81 = some 29 := by kernel_rfl
theorem felem82 : elemOfT Tryd.prog 82 = some 125 := by kernel_rfl
theorem felem83 : elemOfT Tryd.prog 83 = some 116 := by kernel_rfl
theorem felem86 : elemOfT Tryd.prog 86 = some 110 := by kernel_rfl
theorem felem87 : elemOfT Tryd.prog 87 = some 41 := by kernel_rfl
theorem felem146 : elemOfT Tryd.prog 146 = some 145 := by kernel_rfl
theorem felem179 : elemOfT Tryd.prog 179 = some 1 := by kernel_rfl
theorem felem180 : elemOfT Tryd.prog 180 = some 88 := by kernel_rfl
theorem felem192 : elemOfT Tryd.prog 192 = some 191 := by kernel_rfl
theorem felem203 : elemOfT Tryd.prog 203 = some 4 := by kernel_rfl
theorem farr212 : arrOfT Tryd.prog 212 = some (16, 100) := by kernel_rfl
theorem farr221 : arrOfT Tryd.prog 221 = some (32, 5) := by kernel_rfl
theorem felem212 : elemOfT Tryd.prog 212 = none := by kernel_rfl
theorem felem221 : elemOfT Tryd.prog 221 = none := by kernel_rfl
theorem fcells1 : Tryd.prog.cellsOf 1 = 1 := by kernel_rfl
theorem fcells2 : Tryd.prog.cellsOf 2 = 1 := by kernel_rfl
theorem fcells3 : Tryd.prog.cellsOf 3 = 1 := by kernel_rfl
theorem fcells4 : Tryd.prog.cellsOf 4 = 1 := by kernel_rfl
theorem fcells5 : Tryd.prog.cellsOf 5 = 1 := by kernel_rfl
theorem fcells22 : Tryd.prog.cellsOf 22 = 1 := by kernel_rfl
theorem fcells23 : Tryd.prog.cellsOf 23 = 1 := by kernel_rfl
theorem fcells24 : Tryd.prog.cellsOf 24 = 1 := by kernel_rfl
theorem fcells25 : Tryd.prog.cellsOf 25 = 1 := by kernel_rfl
theorem fcells26 : Tryd.prog.cellsOf 26 = 1 := by kernel_rfl
theorem fcells27 : Tryd.prog.cellsOf 27 = 1 := by kernel_rfl
theorem fcells29 : Tryd.prog.cellsOf 29 = 12 := by kernel_rfl
theorem fcells30 : Tryd.prog.cellsOf 30 = 1 := by kernel_rfl
theorem fcells41 : Tryd.prog.cellsOf 41 = 3 := by kernel_rfl
theorem fcells44 : Tryd.prog.cellsOf 44 = 1 := by kernel_rfl
theorem fcells46 : Tryd.prog.cellsOf 46 = 3 := by kernel_rfl
theorem fcells81 : Tryd.prog.cellsOf 81 = 1 := by kernel_rfl
theorem fcells82 : Tryd.prog.cellsOf 82 = 1 := by kernel_rfl
theorem fcells83 : Tryd.prog.cellsOf 83 = 1 := by kernel_rfl
theorem fcells85 : Tryd.prog.cellsOf 85 = 6 := by kernel_rfl
theorem fcells88 : Tryd.prog.cellsOf 88 = 1 := by kernel_rfl
theorem fcells100 : Tryd.prog.cellsOf 100 = 1 := by kernel_rfl
theorem fcells102 : Tryd.prog.cellsOf 102 = 5 := by kernel_rfl
theorem fcells107 : Tryd.prog.cellsOf 107 = 3 := by kernel_rfl
theorem fcells110 : Tryd.prog.cellsOf 110 = 2 := by kernel_rfl
theorem fcells116 : Tryd.prog.cellsOf 116 = 4 := by kernel_rfl
theorem fcells125 : Tryd.prog.cellsOf 125 = 2 := by kernel_rfl
theorem fcells129 : Tryd.prog.cellsOf 129 = 4 := by kernel_rfl
theorem fcells134 : Tryd.prog.cellsOf 134 = 2 := by kernel_rfl
theorem fcells136 : Tryd.prog.cellsOf 136 = 14 := by kernel_rfl
theorem fcells145 : Tryd.prog.cellsOf 145 = 2 := by kernel_rfl
theorem fcells156 : Tryd.prog.cellsOf 156 = 2 := by kernel_rfl
theorem fcells178 : Tryd.prog.cellsOf 178 = 8 := by kernel_rfl
theorem fcells191 : Tryd.prog.cellsOf 191 = 1 := by kernel_rfl
theorem fcells211 : Tryd.prog.cellsOf 211 = 2 := by kernel_rfl
theorem fcells212 : Tryd.prog.cellsOf 212 = 16 := by kernel_rfl
theorem fcells221 : Tryd.prog.cellsOf 221 = 32 := by kernel_rfl
theorem fbytes1 : Tryd.prog.bytesOf 1 = 8 := by kernel_rfl
theorem fbytes2 : Tryd.prog.bytesOf 2 = 8 := by kernel_rfl
theorem fbytes3 : Tryd.prog.bytesOf 3 = 8 := by kernel_rfl
theorem fbytes4 : Tryd.prog.bytesOf 4 = 1 := by kernel_rfl
theorem fbytes5 : Tryd.prog.bytesOf 5 = 1 := by kernel_rfl
theorem fbytes29 : Tryd.prog.bytesOf 29 = 192 := by kernel_rfl
theorem fbytes41 : Tryd.prog.bytesOf 41 = 24 := by kernel_rfl
theorem fbytes44 : Tryd.prog.bytesOf 44 = 24 := by kernel_rfl
theorem fbytes46 : Tryd.prog.bytesOf 46 = 40 := by kernel_rfl
theorem fbytes88 : Tryd.prog.bytesOf 88 = 8 := by kernel_rfl
theorem fbytes100 : Tryd.prog.bytesOf 100 = 4 := by kernel_rfl
theorem fbytes102 : Tryd.prog.bytesOf 102 = 40 := by kernel_rfl
theorem fbytes107 : Tryd.prog.bytesOf 107 = 24 := by kernel_rfl
theorem fbytes110 : Tryd.prog.bytesOf 110 = 16 := by kernel_rfl
theorem fbytes116 : Tryd.prog.bytesOf 116 = 48 := by kernel_rfl
theorem fbytes125 : Tryd.prog.bytesOf 125 = 32 := by kernel_rfl
theorem fbytes129 : Tryd.prog.bytesOf 129 = 32 := by kernel_rfl
theorem fbytes145 : Tryd.prog.bytesOf 145 = 16 := by kernel_rfl
theorem fbytes191 : Tryd.prog.bytesOf 191 = 8 := by kernel_rfl
theorem frow1 : isRowT Tryd.prog 1 = some false := by kernel_rfl
theorem frow2 : isRowT Tryd.prog 2 = some false := by kernel_rfl
theorem frow3 : isRowT Tryd.prog 3 = some false := by kernel_rfl
theorem frow4 : isRowT Tryd.prog 4 = some false := by kernel_rfl
theorem frow5 : isRowT Tryd.prog 5 = some false := by kernel_rfl
theorem frow22 : isRowT Tryd.prog 22 = some false := by kernel_rfl
theorem frow23 : isRowT Tryd.prog 23 = some false := by kernel_rfl
theorem frow24 : isRowT Tryd.prog 24 = some false := by kernel_rfl
theorem frow25 : isRowT Tryd.prog 25 = some false := by kernel_rfl
theorem frow26 : isRowT Tryd.prog 26 = some false := by kernel_rfl
theorem frow27 : isRowT Tryd.prog 27 = some false := by kernel_rfl
theorem frow29 : isRowT Tryd.prog 29 = some true := by kernel_rfl
theorem frow30 : isRowT Tryd.prog 30 = some false := by kernel_rfl
theorem frow41 : isRowT Tryd.prog 41 = some true := by kernel_rfl
theorem frow44 : isRowT Tryd.prog 44 = some false := by kernel_rfl
theorem frow46 : isRowT Tryd.prog 46 = some true := by kernel_rfl
theorem frow81 : isRowT Tryd.prog 81 = some false := by kernel_rfl
theorem frow82 : isRowT Tryd.prog 82 = some false := by kernel_rfl
theorem frow83 : isRowT Tryd.prog 83 = some false := by kernel_rfl
theorem frow85 : isRowT Tryd.prog 85 = some true := by kernel_rfl
theorem frow88 : isRowT Tryd.prog 88 = some false := by kernel_rfl
theorem frow100 : isRowT Tryd.prog 100 = some false := by kernel_rfl
theorem frow102 : isRowT Tryd.prog 102 = some true := by kernel_rfl
theorem frow107 : isRowT Tryd.prog 107 = some true := by kernel_rfl
theorem frow110 : isRowT Tryd.prog 110 = some true := by kernel_rfl
theorem frow116 : isRowT Tryd.prog 116 = some true := by kernel_rfl
theorem frow125 : isRowT Tryd.prog 125 = some true := by kernel_rfl
theorem frow129 : isRowT Tryd.prog 129 = some true := by kernel_rfl
theorem frow134 : isRowT Tryd.prog 134 = some true := by kernel_rfl
theorem frow145 : isRowT Tryd.prog 145 = some true := by kernel_rfl
theorem frow191 : isRowT Tryd.prog 191 = some false := by kernel_rfl
theorem frow211 : isRowT Tryd.prog 211 = some true := by kernel_rfl
theorem frow212 : isRowT Tryd.prog 212 = some true := by kernel_rfl
theorem frow221 : isRowT Tryd.prog 221 = some true := by kernel_rfl
theorem fzero1 : zeroV Tryd.prog 1 = some (.nilF) := by kernel_rfl
theorem fzero2 : zeroV Tryd.prog 2 = some (.int .i64 0) := by kernel_rfl
theorem fzero3 : zeroV Tryd.prog 3 = some (.int .i64 0) := by kernel_rfl
theorem fzero4 : zeroV Tryd.prog 4 = some (.bool false) := by kernel_rfl
theorem fzero5 : zeroV Tryd.prog 5 = some (.int .u8 0) := by kernel_rfl
theorem fzero29 : zeroV Tryd.prog 29 = some (.agg [.int .i64 0, .nilS, .nilS, .nilS, .nilS, .nilS, .int .i64 0, .int .i64 0, .int .i64 0, .int .i64 0, .int .i64 0, .nilS]) := by kernel_rfl
theorem fzero41 : zeroV Tryd.prog 41 = some (.agg [.int .i64 0, .int .i64 0, .int .i64 0]) := by kernel_rfl
theorem fzero44 : zeroV Tryd.prog 44 = some (.nilS) := by kernel_rfl
theorem fzero46 : zeroV Tryd.prog 46 = some (.agg [.int .i64 0, .int .i64 0, .nilS]) := by kernel_rfl
theorem fzero85 : zeroV Tryd.prog 85 = some (.agg [.nilS, .nilS, .nilS, .int .i64 0, .int .i64 0, .int .i64 0]) := by kernel_rfl
theorem fzero88 : zeroV Tryd.prog 88 = some (.nilF) := by kernel_rfl
theorem fzero100 : zeroV Tryd.prog 100 = some (.int .u32 0) := by kernel_rfl
theorem fzero102 : zeroV Tryd.prog 102 = some (.agg [.int .u32 0, .int .i64 0, .int .i64 0, .int .i64 0, .bool false]) := by kernel_rfl
theorem fzero107 : zeroV Tryd.prog 107 = some (.agg [.int .u8 0, .int .i64 0, .int .i64 0]) := by kernel_rfl
theorem fzero110 : zeroV Tryd.prog 110 = some (.agg [.bool false, .int .i64 0]) := by kernel_rfl
theorem fzero116 : zeroV Tryd.prog 116 = some (.agg [.int .i64 0, .int .i64 0, .int .i64 0, .nilS]) := by kernel_rfl
theorem fzero125 : zeroV Tryd.prog 125 = some (.agg [.nilS, .int .i64 0]) := by kernel_rfl
theorem fzero129 : zeroV Tryd.prog 129 = some (.agg [.int .i64 0, .int .i64 0, .int .i64 0, .int .i64 0]) := by kernel_rfl
theorem fzero134 : zeroV Tryd.prog 134 = some (.agg [.nilS, .bool false]) := by kernel_rfl
theorem fzero136 : zeroV Tryd.prog 136 = some (.agg [.nilS, .bool false, .int .i64 0, .nilS, .nilS, .nilS, .nilS, .nilS, .int .i64 0, .int .i64 0, .int .i64 0, .int .i64 0, .int .i64 0, .nilS]) := by kernel_rfl
theorem fzero145 : zeroV Tryd.prog 145 = some (.agg [.int .i64 0, .int .i64 0]) := by kernel_rfl
theorem fzero156 : zeroV Tryd.prog 156 = some (.agg [.nilS, .bool false]) := by kernel_rfl
theorem fzero178 : zeroV Tryd.prog 178 = some (.agg [.nilS, .bool false, .nilS, .nilS, .nilS, .int .i64 0, .int .i64 0, .int .i64 0]) := by kernel_rfl
theorem fzero191 : zeroV Tryd.prog 191 = some (.nilP) := by kernel_rfl
theorem fzero211 : zeroV Tryd.prog 211 = some (.agg [.int .i64 0, .int .i64 0]) := by kernel_rfl
theorem fzero212 : zeroV Tryd.prog 212 = some (.agg [.int .u32 0, .int .u32 0, .int .u32 0, .int .u32 0, .int .u32 0, .int .u32 0, .int .u32 0, .int .u32 0, .int .u32 0, .int .u32 0, .int .u32 0, .int .u32 0, .int .u32 0, .int .u32 0, .int .u32 0, .int .u32 0]) := by kernel_rfl
theorem fzero221 : zeroV Tryd.prog 221 = some (.agg [.int .u8 0, .int .u8 0, .int .u8 0, .int .u8 0, .int .u8 0, .int .u8 0, .int .u8 0, .int .u8 0, .int .u8 0, .int .u8 0, .int .u8 0, .int .u8 0, .int .u8 0, .int .u8 0, .int .u8 0, .int .u8 0, .int .u8 0, .int .u8 0, .int .u8 0, .int .u8 0, .int .u8 0, .int .u8 0, .int .u8 0, .int .u8 0, .int .u8 0, .int .u8 0, .int .u8 0, .int .u8 0, .int .u8 0, .int .u8 0, .int .u8 0, .int .u8 0]) := by kernel_rfl
theorem fpl29 : plF Tryd.prog 29 = some (fun i => [(0, 1), (1, 1), (2, 1), (3, 1), (4, 1), (5, 1), (6, 1), (7, 1), (8, 1), (9, 1), (10, 1), (11, 1)].toArray[i]?) := by kernel_rfl
theorem fpl41 : plF Tryd.prog 41 = some (fun i => [(0, 1), (1, 1), (2, 1)].toArray[i]?) := by kernel_rfl
theorem fpl46 : plF Tryd.prog 46 = some (fun i => [(0, 1), (1, 1), (2, 1)].toArray[i]?) := by kernel_rfl
theorem fpl85 : plF Tryd.prog 85 = some (fun i => [(0, 1), (1, 1), (2, 1), (3, 1), (4, 1), (5, 1)].toArray[i]?) := by kernel_rfl
theorem fpl102 : plF Tryd.prog 102 = some (fun i => [(0, 1), (1, 1), (2, 1), (3, 1), (4, 1)].toArray[i]?) := by kernel_rfl
theorem fpl107 : plF Tryd.prog 107 = some (fun i => [(0, 1), (1, 1), (2, 1)].toArray[i]?) := by kernel_rfl
theorem fpl110 : plF Tryd.prog 110 = some (fun i => [(0, 1), (1, 1)].toArray[i]?) := by kernel_rfl
theorem fpl116 : plF Tryd.prog 116 = some (fun i => [(0, 1), (1, 1), (2, 1), (3, 1)].toArray[i]?) := by kernel_rfl
theorem fpl125 : plF Tryd.prog 125 = some (fun i => [(0, 1), (1, 1)].toArray[i]?) := by kernel_rfl
theorem fpl129 : plF Tryd.prog 129 = some (fun i => [(0, 1), (1, 1), (2, 1), (3, 1)].toArray[i]?) := by kernel_rfl
theorem fpl134 : plF Tryd.prog 134 = some (fun i => [(0, 1), (1, 1)].toArray[i]?) := by kernel_rfl
theorem fpl136 : plF Tryd.prog 136 = some (fun i => [(0, 2), (2, 12)].toArray[i]?) := by kernel_rfl
theorem fpl145 : plF Tryd.prog 145 = some (fun i => [(0, 1), (1, 1)].toArray[i]?) := by kernel_rfl
theorem fpl156 : plF Tryd.prog 156 = some (fun i => [(0, 1), (1, 1)].toArray[i]?) := by kernel_rfl
theorem fpl178 : plF Tryd.prog 178 = some (fun i => [(0, 1), (1, 1), (2, 6)].toArray[i]?) := by kernel_rfl
theorem fpl211 : plF Tryd.prog 211 = some (fun i => some (i * 1, 1)) := by kernel_rfl
theorem fpl212 : plF Tryd.prog 212 = some (fun i => some (i * 1, 1)) := by kernel_rfl
theorem fpl221 : plF Tryd.prog 221 = some (fun i => some (i * 1, 1)) := by kernel_rfl
theorem ffld145a0 : fldOf Tryd.prog 145 0 = some (0, 3) := by kernel_rfl
theorem ffld136a1 : fldOf Tryd.prog 136 1 = some (2, 29) := by kernel_rfl
theorem ffld136a0 : fldOf Tryd.prog 136 0 = some (0, 134) := by kernel_rfl
theorem ffld145a1 : fldOf Tryd.prog 145 1 = some (1, 2) := by kernel_rfl
theorem ffld41a1 : fldOf Tryd.prog 41 1 = some (1, 3) := by kernel_rfl
theorem ffld41a2 : fldOf Tryd.prog 41 2 = some (2, 3) := by kernel_rfl
theorem ffld129a0 : fldOf Tryd.prog 129 0 = some (0, 3) := by kernel_rfl
theorem ffld102a4 : fldOf Tryd.prog 102 4 = some (4, 4) := by kernel_rfl
theorem ffld129a1 : fldOf Tryd.prog 129 1 = some (1, 3) := by kernel_rfl
theorem ffld129a2 : fldOf Tryd.prog 129 2 = some (2, 3) := by kernel_rfl
theorem ffld129a3 : fldOf Tryd.prog 129 3 = some (3, 3) := by kernel_rfl
theorem ffld29a5 : fldOf Tryd.prog 29 5 = some (5, 26) := by kernel_rfl
theorem ffld29a6 : fldOf Tryd.prog 29 6 = some (6, 3) := by kernel_rfl
theorem ffld29a7 : fldOf Tryd.prog 29 7 = some (7, 3) := by kernel_rfl
theorem ffld29a8 : fldOf Tryd.prog 29 8 = some (8, 3) := by kernel_rfl
theorem ffld29a11 : fldOf Tryd.prog 29 11 = some (11, 27) := by kernel_rfl
theorem ffld41a0 : fldOf Tryd.prog 41 0 = some (0, 3) := by kernel_rfl
theorem ffld178a2 : fldOf Tryd.prog 178 2 = some (2, 85) := by kernel_rfl
theorem ffld134a1 : fldOf Tryd.prog 134 1 = some (1, 4) := by kernel_rfl
theorem ffld134a0 : fldOf Tryd.prog 134 0 = some (0, 30) := by kernel_rfl
theorem ffld107a0 : fldOf Tryd.prog 107 0 = some (0, 5) := by kernel_rfl
theorem ffld107a2 : fldOf Tryd.prog 107 2 = some (2, 3) := by kernel_rfl
theorem ffld107a1 : fldOf Tryd.prog 107 1 = some (1, 3) := by kernel_rfl
theorem ffld102a2 : fldOf Tryd.prog 102 2 = some (2, 3) := by kernel_rfl
theorem ffld102a3 : fldOf Tryd.prog 102 3 = some (3, 3) := by kernel_rfl
theorem ffld46a1 : fldOf Tryd.prog 46 1 = some (1, 3) := by kernel_rfl
theorem ffld46a0 : fldOf Tryd.prog 46 0 = some (0, 3) := by kernel_rfl
theorem ffld46a2 : fldOf Tryd.prog 46 2 = some (2, 44) := by kernel_rfl
theorem ffld156a1 : fldOf Tryd.prog 156 1 = some (1, 4) := by kernel_rfl
theorem ffld156a0 : fldOf Tryd.prog 156 0 = some (0, 30) := by kernel_rfl
theorem ffld29a9 : fldOf Tryd.prog 29 9 = some (9, 3) := by kernel_rfl
theorem ffld29a10 : fldOf Tryd.prog 29 10 = some (10, 3) := by kernel_rfl
theorem ffld29a0 : fldOf Tryd.prog 29 0 = some (0, 3) := by kernel_rfl
theorem ffld110a1 : fldOf Tryd.prog 110 1 = some (1, 3) := by kernel_rfl
theorem ffld110a0 : fldOf Tryd.prog 110 0 = some (0, 4) := by kernel_rfl
theorem ffld85a4 : fldOf Tryd.prog 85 4 = some (4, 3) := by kernel_rfl
theorem ffld85a5 : fldOf Tryd.prog 85 5 = some (5, 3) := by kernel_rfl
theorem ffld178a1 : fldOf Tryd.prog 178 1 = some (1, 4) := by kernel_rfl
theorem ffld178a0 : fldOf Tryd.prog 178 0 = some (0, 30) := by kernel_rfl
theorem ffld102a1 : fldOf Tryd.prog 102 1 = some (1, 3) := by kernel_rfl
theorem ffld125a0 : fldOf Tryd.prog 125 0 = some (0, 44) := by kernel_rfl
theorem ffld125a1 : fldOf Tryd.prog 125 1 = some (1, 3) := by kernel_rfl
theorem ffld85a0 : fldOf Tryd.prog 85 0 = some (0, 81) := by kernel_rfl
theorem ffld85a1 : fldOf Tryd.prog 85 1 = some (1, 82) := by kernel_rfl
theorem ffld116a2 : fldOf Tryd.prog 116 2 = some (2, 3) := by kernel_rfl
theorem ffld116a3 : fldOf Tryd.prog 116 3 = some (3, 44) := by kernel_rfl
theorem ffld85a3 : fldOf Tryd.prog 85 3 = some (3, 3) := by kernel_rfl
theorem ffld116a0 : fldOf Tryd.prog 116 0 = some (0, 3) := by kernel_rfl
theorem ffld85a2 : fldOf Tryd.prog 85 2 = some (2, 83) := by kernel_rfl
theorem ffld116a1 : fldOf Tryd.prog 116 1 = some (1, 3) := by kernel_rfl
theorem ffld29a1 : fldOf Tryd.prog 29 1 = some (1, 22) := by kernel_rfl
theorem ffld29a4 : fldOf Tryd.prog 29 4 = some (4, 25) := by kernel_rfl
theorem ffld102a0 : fldOf Tryd.prog 102 0 = some (0, 100) := by kernel_rfl
theorem ffld29a2 : fldOf Tryd.prog 29 2 = some (2, 23) := by kernel_rfl
theorem ffld29a3 : fldOf Tryd.prog 29 3 = some (3, 24) := by kernel_rfl
theorem fmap166 : mapOf Tryd.prog 166 = some (false, 3, 4) := by kernel_rfl
theorem fmap210 : mapOf Tryd.prog 210 = some (true, 211, 4) := by kernel_rfl
theorem fflat41 : flatTys Tryd.prog 41 = some [1, 1, 1] := by kernel_rfl
theorem fflat102 : flatTys Tryd.prog 102 = some [1, 1, 1, 1, 0] := by kernel_rfl
theorem fflat107 : flatTys Tryd.prog 107 = some [1, 1, 1] := by kernel_rfl
theorem fflat110 : flatTys Tryd.prog 110 = some [0, 1] := by kernel_rfl
theorem fflat129 : flatTys Tryd.prog 129 = some [1, 1, 1, 1] := by kernel_rfl
attribute [go_sem] felem22 felem23 felem24 felem25 felem26 felem27 felem30 felem42 felem44 felem81 felem82 felem83 felem86 felem87 felem146 felem179 felem180 felem192 felem203 farr212 farr221 felem212 felem221 fcells1 fcells2 fcells3 fcells4 fcells5 fcells22 fcells23 fcells24 fcells25 fcells26 fcells27 fcells29 fcells30 fcells41 fcells44 fcells46 fcells81 fcells82 fcells83 fcells85 fcells88 fcells100 fcells102 fcells107 fcells110 fcells116 fcells125 fcells129 fcells134 fcells136 fcells145 fcells156 fcells178 fcells191 fcells211 fcells212 fcells221 fbytes1 fbytes2 fbytes3 fbytes4 fbytes5 fbytes29 fbytes41 fbytes44 fbytes46 fbytes88 fbytes100 fbytes102 fbytes107 fbytes110 fbytes116 fbytes125 fbytes129 fbytes145 fbytes191 frow1 frow2 frow3 frow4 frow5 frow22 frow23 frow24 frow25 frow26 frow27 frow29 frow30 frow41 frow44 frow46 frow81 frow82 frow83 frow85 frow88 frow100 frow102 frow107 frow110 frow116 frow125 frow129 frow134 frow145 frow191 frow211 frow212 frow221 fzero1 fzero2 fzero3 fzero4 fzero5 fzero29 fzero41 fzero44 fzero46 fzero85 fzero88 fzero100 fzero102 fzero107 fzero110 fzero116 fzero125 fzero129 fzero134 fzero136 fzero145 fzero156 fzero178 fzero191 fzero211 fzero212 fzero221 fpl29 fpl41 fpl46 fpl85 fpl102 fpl107 fpl110 fpl116 fpl125 fpl129 fpl134 fpl136 fpl145 fpl156 fpl178 fpl211 fpl212 fpl221 ffld145a0 ffld136a1 ffld136a0 ffld145a1 ffld41a1 ffld41a2 ffld129a0 ffld102a4 ffld129a1 ffld129a2 ffld129a3 ffld29a5 ffld29a6 ffld29a7 ffld29a8 ffld29a11 ffld41a0 ffld178a2 ffld134a1 ffld134a0 ffld107a0 ffld107a2 ffld107a1 ffld102a2 ffld102a3 ffld46a1 ffld46a0 ffld46a2 ffld156a1 ffld156a0 ffld29a9 ffld29a10 ffld29a0 ffld110a1 ffld110a0 ffld85a4 ffld85a5 ffld178a1 ffld178a0 ffld102a1 ffld125a0 ffld125a1 ffld85a0 ffld85a1 ffld116a2 ffld116a3 ffld85a3 ffld116a0 ffld85a2 ffld116a1 ffld29a1 ffld29a4 ffld102a0 ffld29a2 ffld29a3 fmap166 fmap210 fflat41 fflat102 fflat107 fflat110 fflat129 Tryd.underlying2 Tryd.underlying3 Tryd.underlying4 Tryd.underlying5 Tryd.underlying9 Tryd.underlying33 Tryd.underlying100 Tryd.underlying103 Tryd.underlying185
end Go.Proofs.YtiibccoaopjoiaaDoor
