/- Closed facts on the types of the translation, printed by a program. -/
import Derived.Test.YtdeionjkcmpnpaaGreatDoorAmSimp
import Derived.Test.YtdeionjkcmpnpaaGreatDoorChecked
namespace Go.Proofs.YtdeionjkcmpnpaaGreatDoor
open Go.AM
theorem mixed : Tryz.prog.follows .mixedOrders = true := Tryz.checked.mixed
theorem felem22 : elemOfT Tryz.prog 22 = some 87 := by kernel_rfl
theorem felem23 : elemOfT Tryz.prog 23 = some 95 := by kernel_rfl
theorem felem24 : elemOfT Tryz.prog 24 = some 97 := by kernel_rfl
theorem felem27 : elemOfT Tryz.prog 27 = some 5 := by kernel_rfl
theorem felem42 : elemOfT Tryz.prog 42 = some 62 := by kernel_rfl
theorem felem43 : elemOfT Tryz.prog 43 = some 134 := by kernel_rfl
theorem felem44 : elemOfT Tryz.prog 44 = some 58 := by kernel_rfl
theorem felem49 : elemOfT Tryz.prog 49 = some 54 := by kernel_rfl
theorem felem52 : elemOfT Tryz.prog 52 = some 3 := by kernel_rfl
theorem felem58 : elemOfT Tryz.prog 58 = some 2 := by kernel_rfl
theorem felem75 : elemOfT Tryz.prog 75 = some 60 := by kernel_rfl
theorem felem80 : elemOfT Tryz.prog 80 = some 148 := by kernel_rfl
theorem felem81 : elemOfT Tryz.prog 81 = some 149 := by kernel_rfl
theorem felem82 : elemOfT Tryz.prog 82 = some 52 := by kernel_rfl
theorem felem83 : elemOfT Tryz.prog 83 = some 151 := by kernel_rfl
theorem felem84 : elemOfT Tryz.prog 84 = some 154 := by kernel_rfl
theorem felem85 : elemOfT Tryz.prog 85 = some 89 := by kernel_rfl
theorem felem108 : elemOfT Tryz.prog 108 = some 1 := by kernel_rfl
theorem felem144 : elemOfT Tryz.prog 144 = some 28 := by kernel_rfl
theorem felem240 : elemOfT Tryz.prog 240 = some 4 := by kernel_rfl
theorem felem254 : elemOfT Tryz.prog 254 = some 253 := by kernel_rfl
theorem felem261 : elemOfT Tryz.prog 261 = some 260 := by kernel_rfl
theorem farr213 : arrOfT Tryz.prog 213 = some (16, 149) := by kernel_rfl
theorem farr256 : arrOfT Tryz.prog 256 = some (8, 2) := by kernel_rfl
theorem farr268 : arrOfT Tryz.prog 268 = some (32, 5) := by kernel_rfl
theorem felem213 : elemOfT Tryz.prog 213 = none := by kernel_rfl
theorem felem256 : elemOfT Tryz.prog 256 = none := by kernel_rfl
theorem felem268 : elemOfT Tryz.prog 268 = none := by kernel_rfl
theorem fcells1 : Tryz.prog.cellsOf 1 = 1 := by kernel_rfl
theorem fcells2 : Tryz.prog.cellsOf 2 = 1 := by kernel_rfl
theorem fcells3 : Tryz.prog.cellsOf 3 = 1 := by kernel_rfl
theorem fcells4 : Tryz.prog.cellsOf 4 = 1 := by kernel_rfl
theorem fcells5 : Tryz.prog.cellsOf 5 = 1 := by kernel_rfl
theorem fcells22 : Tryz.prog.cellsOf 22 = 1 := by kernel_rfl
theorem fcells23 : Tryz.prog.cellsOf 23 = 1 := by kernel_rfl
theorem fcells24 : Tryz.prog.cellsOf 24 = 1 := by kernel_rfl
theorem fcells26 : Tryz.prog.cellsOf 26 = 6 := by kernel_rfl
theorem fcells27 : Tryz.prog.cellsOf 27 = 1 := by kernel_rfl
theorem fcells28 : Tryz.prog.cellsOf 28 = 1 := by kernel_rfl
theorem fcells42 : Tryz.prog.cellsOf 42 = 1 := by kernel_rfl
theorem fcells43 : Tryz.prog.cellsOf 43 = 1 := by kernel_rfl
theorem fcells44 : Tryz.prog.cellsOf 44 = 1 := by kernel_rfl
theorem fcells46 : Tryz.prog.cellsOf 46 = 5 := by kernel_rfl
theorem fcells49 : Tryz.prog.cellsOf 49 = 1 := by kernel_rfl
theorem fcells52 : Tryz.prog.cellsOf 52 = 1 := by kernel_rfl
theorem fcells54 : Tryz.prog.cellsOf 54 = 4 := by kernel_rfl
theorem fcells58 : Tryz.prog.cellsOf 58 = 1 := by kernel_rfl
theorem fcells60 : Tryz.prog.cellsOf 60 = 4 := by kernel_rfl
theorem fcells62 : Tryz.prog.cellsOf 62 = 3 := by kernel_rfl
theorem fcells80 : Tryz.prog.cellsOf 80 = 1 := by kernel_rfl
theorem fcells81 : Tryz.prog.cellsOf 81 = 1 := by kernel_rfl
theorem fcells82 : Tryz.prog.cellsOf 82 = 1 := by kernel_rfl
theorem fcells83 : Tryz.prog.cellsOf 83 = 1 := by kernel_rfl
theorem fcells84 : Tryz.prog.cellsOf 84 = 1 := by kernel_rfl
theorem fcells85 : Tryz.prog.cellsOf 85 = 1 := by kernel_rfl
theorem fcells87 : Tryz.prog.cellsOf 87 = 12 := by kernel_rfl
theorem fcells89 : Tryz.prog.cellsOf 89 = 3 := by kernel_rfl
theorem fcells95 : Tryz.prog.cellsOf 95 = 2 := by kernel_rfl
theorem fcells97 : Tryz.prog.cellsOf 97 = 4 := by kernel_rfl
theorem fcells107 : Tryz.prog.cellsOf 107 = 8 := by kernel_rfl
theorem fcells112 : Tryz.prog.cellsOf 112 = 2 := by kernel_rfl
theorem fcells121 : Tryz.prog.cellsOf 121 = 14 := by kernel_rfl
theorem fcells134 : Tryz.prog.cellsOf 134 = 2 := by kernel_rfl
theorem fcells148 : Tryz.prog.cellsOf 148 = 3 := by kernel_rfl
theorem fcells149 : Tryz.prog.cellsOf 149 = 1 := by kernel_rfl
theorem fcells151 : Tryz.prog.cellsOf 151 = 5 := by kernel_rfl
theorem fcells154 : Tryz.prog.cellsOf 154 = 4 := by kernel_rfl
theorem fcells208 : Tryz.prog.cellsOf 208 = 2 := by kernel_rfl
theorem fcells213 : Tryz.prog.cellsOf 213 = 16 := by kernel_rfl
theorem fcells219 : Tryz.prog.cellsOf 219 = 2 := by kernel_rfl
theorem fcells221 : Tryz.prog.cellsOf 221 = 14 := by kernel_rfl
theorem fcells253 : Tryz.prog.cellsOf 253 = 1 := by kernel_rfl
theorem fcells256 : Tryz.prog.cellsOf 256 = 8 := by kernel_rfl
theorem fcells260 : Tryz.prog.cellsOf 260 = 2 := by kernel_rfl
theorem fcells268 : Tryz.prog.cellsOf 268 = 32 := by kernel_rfl
theorem fbytes1 : Tryz.prog.bytesOf 1 = 8 := by kernel_rfl
theorem fbytes2 : Tryz.prog.bytesOf 2 = 8 := by kernel_rfl
theorem fbytes3 : Tryz.prog.bytesOf 3 = 8 := by kernel_rfl
theorem fbytes4 : Tryz.prog.bytesOf 4 = 1 := by kernel_rfl
theorem fbytes5 : Tryz.prog.bytesOf 5 = 1 := by kernel_rfl
theorem fbytes28 : Tryz.prog.bytesOf 28 = 8 := by kernel_rfl
theorem fbytes52 : Tryz.prog.bytesOf 52 = 24 := by kernel_rfl
theorem fbytes54 : Tryz.prog.bytesOf 54 = 48 := by kernel_rfl
theorem fbytes58 : Tryz.prog.bytesOf 58 = 24 := by kernel_rfl
theorem fbytes60 : Tryz.prog.bytesOf 60 = 48 := by kernel_rfl
theorem fbytes62 : Tryz.prog.bytesOf 62 = 24 := by kernel_rfl
theorem fbytes87 : Tryz.prog.bytesOf 87 = 192 := by kernel_rfl
theorem fbytes89 : Tryz.prog.bytesOf 89 = 40 := by kernel_rfl
theorem fbytes95 : Tryz.prog.bytesOf 95 = 32 := by kernel_rfl
theorem fbytes97 : Tryz.prog.bytesOf 97 = 48 := by kernel_rfl
theorem fbytes134 : Tryz.prog.bytesOf 134 = 16 := by kernel_rfl
theorem fbytes148 : Tryz.prog.bytesOf 148 = 24 := by kernel_rfl
theorem fbytes149 : Tryz.prog.bytesOf 149 = 4 := by kernel_rfl
theorem fbytes151 : Tryz.prog.bytesOf 151 = 40 := by kernel_rfl
theorem fbytes154 : Tryz.prog.bytesOf 154 = 32 := by kernel_rfl
theorem fbytes253 : Tryz.prog.bytesOf 253 = 8 := by kernel_rfl
theorem fbytes260 : Tryz.prog.bytesOf 260 = 16 := by kernel_rfl
theorem frow1 : isRowT Tryz.prog 1 = some false := by kernel_rfl
theorem frow2 : isRowT Tryz.prog 2 = some false := by kernel_rfl
theorem frow3 : isRowT Tryz.prog 3 = some false := by kernel_rfl
theorem frow4 : isRowT Tryz.prog 4 = some false := by kernel_rfl
theorem frow5 : isRowT Tryz.prog 5 = some false := by kernel_rfl
theorem frow22 : isRowT Tryz.prog 22 = some false := by kernel_rfl
theorem frow23 : isRowT Tryz.prog 23 = some false := by kernel_rfl
theorem frow24 : isRowT Tryz.prog 24 = some false := by kernel_rfl
theorem frow26 : isRowT Tryz.prog 26 = some true := by kernel_rfl
theorem frow27 : isRowT Tryz.prog 27 = some false := by kernel_rfl
theorem frow28 : isRowT Tryz.prog 28 = some false := by kernel_rfl
theorem frow42 : isRowT Tryz.prog 42 = some false := by kernel_rfl
theorem frow43 : isRowT Tryz.prog 43 = some false := by kernel_rfl
theorem frow44 : isRowT Tryz.prog 44 = some false := by kernel_rfl
theorem frow46 : isRowT Tryz.prog 46 = some true := by kernel_rfl
theorem frow49 : isRowT Tryz.prog 49 = some false := by kernel_rfl
theorem frow52 : isRowT Tryz.prog 52 = some false := by kernel_rfl
theorem frow54 : isRowT Tryz.prog 54 = some true := by kernel_rfl
theorem frow58 : isRowT Tryz.prog 58 = some false := by kernel_rfl
theorem frow60 : isRowT Tryz.prog 60 = some true := by kernel_rfl
theorem frow62 : isRowT Tryz.prog 62 = some true := by kernel_rfl
theorem frow80 : isRowT Tryz.prog 80 = some false := by kernel_rfl
theorem frow81 : isRowT Tryz.prog 81 = some false := by kernel_rfl
theorem frow82 : isRowT Tryz.prog 82 = some false := by kernel_rfl
theorem frow83 : isRowT Tryz.prog 83 = some false := by kernel_rfl
theorem frow84 : isRowT Tryz.prog 84 = some false := by kernel_rfl
theorem frow85 : isRowT Tryz.prog 85 = some false := by kernel_rfl
theorem frow87 : isRowT Tryz.prog 87 = some true := by kernel_rfl
theorem frow89 : isRowT Tryz.prog 89 = some true := by kernel_rfl
theorem frow95 : isRowT Tryz.prog 95 = some true := by kernel_rfl
theorem frow97 : isRowT Tryz.prog 97 = some true := by kernel_rfl
theorem frow134 : isRowT Tryz.prog 134 = some true := by kernel_rfl
theorem frow148 : isRowT Tryz.prog 148 = some true := by kernel_rfl
theorem frow149 : isRowT Tryz.prog 149 = some false := by kernel_rfl
theorem frow151 : isRowT Tryz.prog 151 = some true := by kernel_rfl
theorem frow154 : isRowT Tryz.prog 154 = some true := by kernel_rfl
theorem frow208 : isRowT Tryz.prog 208 = some true := by kernel_rfl
theorem frow213 : isRowT Tryz.prog 213 = some true := by kernel_rfl
theorem frow219 : isRowT Tryz.prog 219 = some true := by kernel_rfl
theorem frow253 : isRowT Tryz.prog 253 = some false := by kernel_rfl
theorem frow260 : isRowT Tryz.prog 260 = some true := by kernel_rfl
theorem frow268 : isRowT Tryz.prog 268 = some true := by kernel_rfl
theorem fzero1 : zeroV Tryz.prog 1 = some (.nilF) := by kernel_rfl
theorem fzero2 : zeroV Tryz.prog 2 = some (.int .i64 0) := by kernel_rfl
theorem fzero3 : zeroV Tryz.prog 3 = some (.int .i64 0) := by kernel_rfl
theorem fzero4 : zeroV Tryz.prog 4 = some (.bool false) := by kernel_rfl
theorem fzero5 : zeroV Tryz.prog 5 = some (.int .u8 0) := by kernel_rfl
theorem fzero26 : zeroV Tryz.prog 26 = some (.agg [.nilS, .nilS, .nilS, .int .i64 0, .int .i64 0, .int .i64 0]) := by kernel_rfl
theorem fzero28 : zeroV Tryz.prog 28 = some (.nilF) := by kernel_rfl
theorem fzero46 : zeroV Tryz.prog 46 = some (.agg [.nilS, .nilS, .nilS, .nilS, .nilS]) := by kernel_rfl
theorem fzero52 : zeroV Tryz.prog 52 = some (.nilS) := by kernel_rfl
theorem fzero54 : zeroV Tryz.prog 54 = some (.agg [.int .i64 0, .int .i64 0, .int .i64 0, .nilS]) := by kernel_rfl
theorem fzero58 : zeroV Tryz.prog 58 = some (.nilS) := by kernel_rfl
theorem fzero60 : zeroV Tryz.prog 60 = some (.agg [.int .i64 0, .int .u8 0, .int .i64 0, .nilS]) := by kernel_rfl
theorem fzero62 : zeroV Tryz.prog 62 = some (.agg [.int .i64 0, .int .i64 0, .int .i64 0]) := by kernel_rfl
theorem fzero87 : zeroV Tryz.prog 87 = some (.agg [.int .i64 0, .nilS, .nilS, .nilS, .nilS, .nilS, .int .i64 0, .int .i64 0, .int .i64 0, .int .i64 0, .int .i64 0, .nilS]) := by kernel_rfl
theorem fzero89 : zeroV Tryz.prog 89 = some (.agg [.int .i64 0, .int .i64 0, .nilS]) := by kernel_rfl
theorem fzero95 : zeroV Tryz.prog 95 = some (.agg [.nilS, .int .i64 0]) := by kernel_rfl
theorem fzero97 : zeroV Tryz.prog 97 = some (.agg [.int .i64 0, .int .i64 0, .int .i64 0, .nilS]) := by kernel_rfl
theorem fzero107 : zeroV Tryz.prog 107 = some (.agg [.nilS, .bool false, .nilS, .nilS, .nilS, .int .i64 0, .int .i64 0, .int .i64 0]) := by kernel_rfl
theorem fzero112 : zeroV Tryz.prog 112 = some (.agg [.nilS, .bool false]) := by kernel_rfl
theorem fzero121 : zeroV Tryz.prog 121 = some (.agg [.nilS, .nilS, .nilS, .int .i64 0, .int .i64 0, .int .i64 0, .nilS, .nilS, .nilS, .nilS, .nilS, .nilS, .nilS, .nilS]) := by kernel_rfl
theorem fzero123 : zeroV Tryz.prog 123 = some (.agg [.nilF, .nilF, .nilF, .nilF, .nilF]) := by kernel_rfl
theorem fzero134 : zeroV Tryz.prog 134 = some (.agg [.bool false, .int .i64 0]) := by kernel_rfl
theorem fzero148 : zeroV Tryz.prog 148 = some (.agg [.int .u8 0, .int .i64 0, .int .i64 0]) := by kernel_rfl
theorem fzero149 : zeroV Tryz.prog 149 = some (.int .u32 0) := by kernel_rfl
theorem fzero151 : zeroV Tryz.prog 151 = some (.agg [.int .u32 0, .int .i64 0, .int .i64 0, .int .i64 0, .bool false]) := by kernel_rfl
theorem fzero154 : zeroV Tryz.prog 154 = some (.agg [.int .i64 0, .int .i64 0, .int .i64 0, .int .i64 0]) := by kernel_rfl
theorem fzero208 : zeroV Tryz.prog 208 = some (.agg [.int .i64 0, .int .i64 0]) := by kernel_rfl
theorem fzero213 : zeroV Tryz.prog 213 = some (.agg [.int .u32 0, .int .u32 0, .int .u32 0, .int .u32 0, .int .u32 0, .int .u32 0, .int .u32 0, .int .u32 0, .int .u32 0, .int .u32 0, .int .u32 0, .int .u32 0, .int .u32 0, .int .u32 0, .int .u32 0, .int .u32 0]) := by kernel_rfl
theorem fzero219 : zeroV Tryz.prog 219 = some (.agg [.nilS, .bool false]) := by kernel_rfl
theorem fzero221 : zeroV Tryz.prog 221 = some (.agg [.nilS, .bool false, .int .i64 0, .nilS, .nilS, .nilS, .nilS, .nilS, .int .i64 0, .int .i64 0, .int .i64 0, .int .i64 0, .int .i64 0, .nilS]) := by kernel_rfl
theorem fzero253 : zeroV Tryz.prog 253 = some (.nilP) := by kernel_rfl
theorem fzero256 : zeroV Tryz.prog 256 = some (.agg [.int .i64 0, .int .i64 0, .int .i64 0, .int .i64 0, .int .i64 0, .int .i64 0, .int .i64 0, .int .i64 0]) := by kernel_rfl
theorem fzero260 : zeroV Tryz.prog 260 = some (.agg [.int .i64 0, .int .i64 0]) := by kernel_rfl
theorem fzero268 : zeroV Tryz.prog 268 = some (.agg [.int .u8 0, .int .u8 0, .int .u8 0, .int .u8 0, .int .u8 0, .int .u8 0, .int .u8 0, .int .u8 0, .int .u8 0, .int .u8 0, .int .u8 0, .int .u8 0, .int .u8 0, .int .u8 0, .int .u8 0, .int .u8 0, .int .u8 0, .int .u8 0, .int .u8 0, .int .u8 0, .int .u8 0, .int .u8 0, .int .u8 0, .int .u8 0, .int .u8 0, .int .u8 0, .int .u8 0, .int .u8 0, .int .u8 0, .int .u8 0, .int .u8 0, .int .u8 0]) := by kernel_rfl
theorem fpl26 : plF Tryz.prog 26 = some (fun i => [(0, 1), (1, 1), (2, 1), (3, 1), (4, 1), (5, 1)].toArray[i]?) := by kernel_rfl
theorem fpl46 : plF Tryz.prog 46 = some (fun i => [(0, 1), (1, 1), (2, 1), (3, 1), (4, 1)].toArray[i]?) := by kernel_rfl
theorem fpl54 : plF Tryz.prog 54 = some (fun i => [(0, 1), (1, 1), (2, 1), (3, 1)].toArray[i]?) := by kernel_rfl
theorem fpl60 : plF Tryz.prog 60 = some (fun i => [(0, 1), (1, 1), (2, 1), (3, 1)].toArray[i]?) := by kernel_rfl
theorem fpl62 : plF Tryz.prog 62 = some (fun i => [(0, 1), (1, 1), (2, 1)].toArray[i]?) := by kernel_rfl
theorem fpl87 : plF Tryz.prog 87 = some (fun i => [(0, 1), (1, 1), (2, 1), (3, 1), (4, 1), (5, 1), (6, 1), (7, 1), (8, 1), (9, 1), (10, 1), (11, 1)].toArray[i]?) := by kernel_rfl
theorem fpl89 : plF Tryz.prog 89 = some (fun i => [(0, 1), (1, 1), (2, 1)].toArray[i]?) := by kernel_rfl
theorem fpl95 : plF Tryz.prog 95 = some (fun i => [(0, 1), (1, 1)].toArray[i]?) := by kernel_rfl
theorem fpl97 : plF Tryz.prog 97 = some (fun i => [(0, 1), (1, 1), (2, 1), (3, 1)].toArray[i]?) := by kernel_rfl
theorem fpl107 : plF Tryz.prog 107 = some (fun i => [(0, 1), (1, 1), (2, 6)].toArray[i]?) := by kernel_rfl
theorem fpl112 : plF Tryz.prog 112 = some (fun i => [(0, 1), (1, 1)].toArray[i]?) := by kernel_rfl
theorem fpl121 : plF Tryz.prog 121 = some (fun i => [(0, 6), (6, 5), (11, 1), (12, 1), (13, 1)].toArray[i]?) := by kernel_rfl
theorem fpl123 : plF Tryz.prog 123 = some (fun i => some (i * 1, 1)) := by kernel_rfl
theorem fpl134 : plF Tryz.prog 134 = some (fun i => [(0, 1), (1, 1)].toArray[i]?) := by kernel_rfl
theorem fpl148 : plF Tryz.prog 148 = some (fun i => [(0, 1), (1, 1), (2, 1)].toArray[i]?) := by kernel_rfl
theorem fpl151 : plF Tryz.prog 151 = some (fun i => [(0, 1), (1, 1), (2, 1), (3, 1), (4, 1)].toArray[i]?) := by kernel_rfl
theorem fpl154 : plF Tryz.prog 154 = some (fun i => [(0, 1), (1, 1), (2, 1), (3, 1)].toArray[i]?) := by kernel_rfl
theorem fpl208 : plF Tryz.prog 208 = some (fun i => some (i * 1, 1)) := by kernel_rfl
theorem fpl213 : plF Tryz.prog 213 = some (fun i => some (i * 1, 1)) := by kernel_rfl
theorem fpl219 : plF Tryz.prog 219 = some (fun i => [(0, 1), (1, 1)].toArray[i]?) := by kernel_rfl
theorem fpl221 : plF Tryz.prog 221 = some (fun i => [(0, 2), (2, 12)].toArray[i]?) := by kernel_rfl
theorem fpl260 : plF Tryz.prog 260 = some (fun i => [(0, 1), (1, 1)].toArray[i]?) := by kernel_rfl
theorem fpl268 : plF Tryz.prog 268 = some (fun i => some (i * 1, 1)) := by kernel_rfl
theorem ffld60a0 : fldOf Tryz.prog 60 0 = some (0, 3) := by kernel_rfl
theorem ffld60a3 : fldOf Tryz.prog 60 3 = some (3, 58) := by kernel_rfl
theorem ffld54a0 : fldOf Tryz.prog 54 0 = some (0, 3) := by kernel_rfl
theorem ffld54a1 : fldOf Tryz.prog 54 1 = some (1, 3) := by kernel_rfl
theorem ffld54a2 : fldOf Tryz.prog 54 2 = some (2, 3) := by kernel_rfl
theorem ffld54a3 : fldOf Tryz.prog 54 3 = some (3, 52) := by kernel_rfl
theorem ffld107a2 : fldOf Tryz.prog 107 2 = some (2, 26) := by kernel_rfl
theorem ffld112a0 : fldOf Tryz.prog 112 0 = some (0, 27) := by kernel_rfl
theorem ffld121a2 : fldOf Tryz.prog 121 2 = some (11, 52) := by kernel_rfl
theorem ffld121a3 : fldOf Tryz.prog 121 3 = some (12, 52) := by kernel_rfl
theorem ffld121a4 : fldOf Tryz.prog 121 4 = some (13, 49) := by kernel_rfl
theorem ffld46a0 : fldOf Tryz.prog 46 0 = some (0, 42) := by kernel_rfl
theorem ffld46a1 : fldOf Tryz.prog 46 1 = some (1, 42) := by kernel_rfl
theorem ffld46a2 : fldOf Tryz.prog 46 2 = some (2, 43) := by kernel_rfl
theorem ffld46a4 : fldOf Tryz.prog 46 4 = some (4, 42) := by kernel_rfl
theorem ffld26a0 : fldOf Tryz.prog 26 0 = some (0, 22) := by kernel_rfl
theorem ffld107a1 : fldOf Tryz.prog 107 1 = some (1, 4) := by kernel_rfl
theorem ffld107a0 : fldOf Tryz.prog 107 0 = some (0, 27) := by kernel_rfl
theorem ffld121a1 : fldOf Tryz.prog 121 1 = some (6, 46) := by kernel_rfl
theorem ffld46a3 : fldOf Tryz.prog 46 3 = some (3, 44) := by kernel_rfl
theorem ffld121a0 : fldOf Tryz.prog 121 0 = some (0, 26) := by kernel_rfl
theorem ffld95a1 : fldOf Tryz.prog 95 1 = some (1, 3) := by kernel_rfl
theorem ffld97a2 : fldOf Tryz.prog 97 2 = some (2, 3) := by kernel_rfl
theorem ffld95a0 : fldOf Tryz.prog 95 0 = some (0, 52) := by kernel_rfl
theorem ffld134a1 : fldOf Tryz.prog 134 1 = some (1, 3) := by kernel_rfl
theorem ffld148a0 : fldOf Tryz.prog 148 0 = some (0, 5) := by kernel_rfl
theorem ffld148a1 : fldOf Tryz.prog 148 1 = some (1, 3) := by kernel_rfl
theorem ffld148a2 : fldOf Tryz.prog 148 2 = some (2, 3) := by kernel_rfl
theorem ffld151a2 : fldOf Tryz.prog 151 2 = some (2, 3) := by kernel_rfl
theorem ffld151a3 : fldOf Tryz.prog 151 3 = some (3, 3) := by kernel_rfl
theorem ffld154a0 : fldOf Tryz.prog 154 0 = some (0, 3) := by kernel_rfl
theorem ffld154a1 : fldOf Tryz.prog 154 1 = some (1, 3) := by kernel_rfl
theorem ffld154a2 : fldOf Tryz.prog 154 2 = some (2, 3) := by kernel_rfl
theorem ffld154a3 : fldOf Tryz.prog 154 3 = some (3, 3) := by kernel_rfl
theorem ffld221a1 : fldOf Tryz.prog 221 1 = some (2, 87) := by kernel_rfl
theorem ffld87a0 : fldOf Tryz.prog 87 0 = some (0, 3) := by kernel_rfl
theorem ffld151a4 : fldOf Tryz.prog 151 4 = some (4, 4) := by kernel_rfl
theorem ffld87a5 : fldOf Tryz.prog 87 5 = some (5, 84) := by kernel_rfl
theorem ffld87a6 : fldOf Tryz.prog 87 6 = some (6, 3) := by kernel_rfl
theorem ffld87a7 : fldOf Tryz.prog 87 7 = some (7, 3) := by kernel_rfl
theorem ffld87a8 : fldOf Tryz.prog 87 8 = some (8, 3) := by kernel_rfl
theorem ffld221a0 : fldOf Tryz.prog 221 0 = some (0, 219) := by kernel_rfl
theorem ffld112a1 : fldOf Tryz.prog 112 1 = some (1, 4) := by kernel_rfl
theorem ffld62a1 : fldOf Tryz.prog 62 1 = some (1, 3) := by kernel_rfl
theorem ffld62a2 : fldOf Tryz.prog 62 2 = some (2, 3) := by kernel_rfl
theorem ffld62a0 : fldOf Tryz.prog 62 0 = some (0, 3) := by kernel_rfl
theorem ffld260a0 : fldOf Tryz.prog 260 0 = some (0, 3) := by kernel_rfl
theorem ffld87a11 : fldOf Tryz.prog 87 11 = some (11, 85) := by kernel_rfl
theorem ffld26a4 : fldOf Tryz.prog 26 4 = some (4, 3) := by kernel_rfl
theorem ffld26a3 : fldOf Tryz.prog 26 3 = some (3, 3) := by kernel_rfl
theorem ffld26a5 : fldOf Tryz.prog 26 5 = some (5, 3) := by kernel_rfl
theorem ffld97a3 : fldOf Tryz.prog 97 3 = some (3, 52) := by kernel_rfl
theorem ffld97a0 : fldOf Tryz.prog 97 0 = some (0, 3) := by kernel_rfl
theorem ffld97a1 : fldOf Tryz.prog 97 1 = some (1, 3) := by kernel_rfl
theorem ffld134a0 : fldOf Tryz.prog 134 0 = some (0, 4) := by kernel_rfl
theorem ffld26a1 : fldOf Tryz.prog 26 1 = some (1, 23) := by kernel_rfl
theorem ffld219a1 : fldOf Tryz.prog 219 1 = some (1, 4) := by kernel_rfl
theorem ffld219a0 : fldOf Tryz.prog 219 0 = some (0, 27) := by kernel_rfl
theorem ffld26a2 : fldOf Tryz.prog 26 2 = some (2, 24) := by kernel_rfl
theorem ffld260a1 : fldOf Tryz.prog 260 1 = some (1, 2) := by kernel_rfl
theorem ffld87a9 : fldOf Tryz.prog 87 9 = some (9, 3) := by kernel_rfl
theorem ffld89a1 : fldOf Tryz.prog 89 1 = some (1, 3) := by kernel_rfl
theorem ffld89a0 : fldOf Tryz.prog 89 0 = some (0, 3) := by kernel_rfl
theorem ffld151a1 : fldOf Tryz.prog 151 1 = some (1, 3) := by kernel_rfl
theorem ffld87a10 : fldOf Tryz.prog 87 10 = some (10, 3) := by kernel_rfl
theorem ffld89a2 : fldOf Tryz.prog 89 2 = some (2, 52) := by kernel_rfl
theorem ffld87a1 : fldOf Tryz.prog 87 1 = some (1, 80) := by kernel_rfl
theorem ffld151a0 : fldOf Tryz.prog 151 0 = some (0, 149) := by kernel_rfl
theorem ffld87a2 : fldOf Tryz.prog 87 2 = some (2, 81) := by kernel_rfl
theorem ffld87a3 : fldOf Tryz.prog 87 3 = some (3, 82) := by kernel_rfl
theorem ffld87a4 : fldOf Tryz.prog 87 4 = some (4, 83) := by kernel_rfl
theorem fmap206 : mapOf Tryz.prog 206 = some (false, 3, 4) := by kernel_rfl
theorem fmap207 : mapOf Tryz.prog 207 = some (true, 208, 4) := by kernel_rfl
theorem fflat62 : flatTys Tryz.prog 62 = some [1, 1, 1] := by kernel_rfl
theorem fflat134 : flatTys Tryz.prog 134 = some [0, 1] := by kernel_rfl
theorem fflat148 : flatTys Tryz.prog 148 = some [1, 1, 1] := by kernel_rfl
theorem fflat151 : flatTys Tryz.prog 151 = some [1, 1, 1, 1, 0] := by kernel_rfl
theorem fflat154 : flatTys Tryz.prog 154 = some [1, 1, 1, 1] := by kernel_rfl
attribute [go_sem] felem22 felem23 felem24 felem27 felem42 felem43 felem44 felem49 felem52 felem58 felem75 felem80 felem81 felem82 felem83 felem84 felem85 felem108 felem144 felem240 felem254 felem261 farr213 farr256 farr268 felem213 felem256 felem268 fcells1 fcells2 fcells3 fcells4 fcells5 fcells22 fcells23 fcells24 fcells26 fcells27 fcells28 fcells42 fcells43 fcells44 fcells46 fcells49 fcells52 fcells54 fcells58 fcells60 fcells62 fcells80 fcells81 fcells82 fcells83 fcells84 fcells85 fcells87 fcells89 fcells95 fcells97 fcells107 fcells112 fcells121 fcells134 fcells148 fcells149 fcells151 fcells154 fcells208 fcells213 fcells219 fcells221 fcells253 fcells256 fcells260 fcells268 fbytes1 fbytes2 fbytes3 fbytes4 fbytes5 fbytes28 fbytes52 fbytes54 fbytes58 fbytes60 fbytes62 fbytes87 fbytes89 fbytes95 fbytes97 fbytes134 fbytes148 fbytes149 fbytes151 fbytes154 fbytes253 fbytes260 frow1 frow2 frow3 frow4 frow5 frow22 frow23 frow24 frow26 frow27 frow28 frow42 frow43 frow44 frow46 frow49 frow52 frow54 frow58 frow60 frow62 frow80 frow81 frow82 frow83 frow84 frow85 frow87 frow89 frow95 frow97 frow134 frow148 frow149 frow151 frow154 frow208 frow213 frow219 frow253 frow260 frow268 fzero1 fzero2 fzero3 fzero4 fzero5 fzero26 fzero28 fzero46 fzero52 fzero54 fzero58 fzero60 fzero62 fzero87 fzero89 fzero95 fzero97 fzero107 fzero112 fzero121 fzero123 fzero134 fzero148 fzero149 fzero151 fzero154 fzero208 fzero213 fzero219 fzero221 fzero253 fzero256 fzero260 fzero268 fpl26 fpl46 fpl54 fpl60 fpl62 fpl87 fpl89 fpl95 fpl97 fpl107 fpl112 fpl121 fpl123 fpl134 fpl148 fpl151 fpl154 fpl208 fpl213 fpl219 fpl221 fpl260 fpl268 ffld60a0 ffld60a3 ffld54a0 ffld54a1 ffld54a2 ffld54a3 ffld107a2 ffld112a0 ffld121a2 ffld121a3 ffld121a4 ffld46a0 ffld46a1 ffld46a2 ffld46a4 ffld26a0 ffld107a1 ffld107a0 ffld121a1 ffld46a3 ffld121a0 ffld95a1 ffld97a2 ffld95a0 ffld134a1 ffld148a0 ffld148a1 ffld148a2 ffld151a2 ffld151a3 ffld154a0 ffld154a1 ffld154a2 ffld154a3 ffld221a1 ffld87a0 ffld151a4 ffld87a5 ffld87a6 ffld87a7 ffld87a8 ffld221a0 ffld112a1 ffld62a1 ffld62a2 ffld62a0 ffld260a0 ffld87a11 ffld26a4 ffld26a3 ffld26a5 ffld97a3 ffld97a0 ffld97a1 ffld134a0 ffld26a1 ffld219a1 ffld219a0 ffld26a2 ffld260a1 ffld87a9 ffld89a1 ffld89a0 ffld151a1 ffld87a10 ffld89a2 ffld87a1 ffld151a0 ffld87a2 ffld87a3 ffld87a4 fmap206 fmap207 fflat62 fflat134 fflat148 fflat151 fflat154 Tryz.underlying2 Tryz.underlying3 Tryz.underlying4 Tryz.underlying5 Tryz.underlying9 Tryz.underlying30 Tryz.underlying146 Tryz.underlying149 Tryz.underlying211
end Go.Proofs.YtdeionjkcmpnpaaGreatDoor
