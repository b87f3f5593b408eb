/- Closed facts on the types of the translation, printed by a program. -/
import Derived.Test.YtlgbdpabcbcmcaaGreatDoorLDAmSimp
import Derived.Test.YtlgbdpabcbcmcaaGreatDoorChecked
namespace Go.Proofs.YtlgbdpabcbcmcaaGreatDoor
open Go.AM
theorem mixed : Tryz.prog.follows .mixedOrders = true := Tryz.checked.mixed
theorem xSq : zAu Tryz.prog 22 = some 94 := by kernel_rfl
theorem xSp : zAu Tryz.prog 23 = some 40 := by kernel_rfl
theorem xSo : zAu Tryz.prog 24 = some 54 := by kernel_rfl
theorem xSn : zAu Tryz.prog 25 = some 78 := by kernel_rfl
theorem xSm : zAu Tryz.prog 26 = some 75 := by kernel_rfl
theorem xSl : zAu Tryz.prog 27 = some 56 := by kernel_rfl
theorem xSk : zAu Tryz.prog 30 = some 5 := by kernel_rfl
theorem xSj : zAu Tryz.prog 33 = some 42 := by kernel_rfl
theorem xSi : zAu Tryz.prog 36 = some 30 := by kernel_rfl
theorem xSh : zAu Tryz.prog 45 = some 127 := by kernel_rfl
theorem xSg : zAu Tryz.prog 54 = some 3 := by kernel_rfl
theorem xSf : zAu Tryz.prog 57 = some 163 := by kernel_rfl
theorem xSe : zAu Tryz.prog 58 = some 240 := by kernel_rfl
theorem xSd : zAu Tryz.prog 59 = some 167 := by kernel_rfl
theorem xSc : zAu Tryz.prog 84 = some 158 := by kernel_rfl
theorem xIy : zAu Tryz.prog 140 = some 146 := by kernel_rfl
theorem xIx : zAu Tryz.prog 191 = some 2 := by kernel_rfl
theorem xIv : zAu Tryz.prog 234 = some 4 := by kernel_rfl
theorem xIu : zAu Tryz.prog 274 = some 165 := by kernel_rfl
theorem xTa : zIe Tryz.prog 206 = some (2, 205) := by kernel_rfl
theorem xSz : zIe Tryz.prog 289 = some (32, 5) := by kernel_rfl
theorem xSy : zIe Tryz.prog 305 = some (64, 5) := by kernel_rfl
theorem xSx : zIe Tryz.prog 308 = some (16, 40) := by kernel_rfl
theorem xIw : zAu Tryz.prog 206 = none := by kernel_rfl
theorem xIt : zAu Tryz.prog 289 = none := by kernel_rfl
theorem xIs : zAu Tryz.prog 305 = none := by kernel_rfl
theorem xIr : zAu Tryz.prog 308 = none := by kernel_rfl
theorem xSs : Tryz.prog.cellsOf 2 = 1 := by kernel_rfl
theorem yXk : Tryz.prog.cellsOf 3 = 1 := by kernel_rfl
theorem xSr : Tryz.prog.cellsOf 4 = 1 := by kernel_rfl
theorem yXf : Tryz.prog.cellsOf 5 = 1 := by kernel_rfl
theorem xJu : Tryz.prog.cellsOf 22 = 1 := by kernel_rfl
theorem xJt : Tryz.prog.cellsOf 23 = 1 := by kernel_rfl
theorem xJs : Tryz.prog.cellsOf 24 = 1 := by kernel_rfl
theorem xJr : Tryz.prog.cellsOf 25 = 1 := by kernel_rfl
theorem xJq : Tryz.prog.cellsOf 26 = 1 := by kernel_rfl
theorem xJp : Tryz.prog.cellsOf 27 = 1 := by kernel_rfl
theorem xJo : Tryz.prog.cellsOf 29 = 12 := by kernel_rfl
theorem xJn : Tryz.prog.cellsOf 30 = 1 := by kernel_rfl
theorem xJm : Tryz.prog.cellsOf 32 = 1 := by kernel_rfl
theorem xJl : Tryz.prog.cellsOf 36 = 1 := by kernel_rfl
theorem xJk : Tryz.prog.cellsOf 37 = 1 := by kernel_rfl
theorem yJv : Tryz.prog.cellsOf 40 = 1 := by kernel_rfl
theorem yJu : Tryz.prog.cellsOf 42 = 7 := by kernel_rfl
theorem xJj : Tryz.prog.cellsOf 45 = 1 := by kernel_rfl
theorem xJi : Tryz.prog.cellsOf 47 = 3 := by kernel_rfl
theorem xJh : Tryz.prog.cellsOf 49 = 3 := by kernel_rfl
theorem xJg : Tryz.prog.cellsOf 51 = 2 := by kernel_rfl
theorem xJf : Tryz.prog.cellsOf 53 = 3 := by kernel_rfl
theorem yJt : Tryz.prog.cellsOf 54 = 1 := by kernel_rfl
theorem yJs : Tryz.prog.cellsOf 56 = 3 := by kernel_rfl
theorem xJe : Tryz.prog.cellsOf 57 = 1 := by kernel_rfl
theorem xJd : Tryz.prog.cellsOf 58 = 1 := by kernel_rfl
theorem xJc : Tryz.prog.cellsOf 59 = 1 := by kernel_rfl
theorem xJb : Tryz.prog.cellsOf 61 = 27 := by kernel_rfl
theorem yJr : Tryz.prog.cellsOf 75 = 4 := by kernel_rfl
theorem yJq : Tryz.prog.cellsOf 78 = 5 := by kernel_rfl
theorem xJa : Tryz.prog.cellsOf 84 = 1 := by kernel_rfl
theorem xIz : Tryz.prog.cellsOf 86 = 51 := by kernel_rfl
theorem yJp : Tryz.prog.cellsOf 94 = 3 := by kernel_rfl
theorem yYe : Tryz.prog.cellsOf 104 = 4 := by kernel_rfl
theorem yYd : Tryz.prog.cellsOf 106 = 3 := by kernel_rfl
theorem yYc : Tryz.prog.cellsOf 127 = 3 := by kernel_rfl
theorem yYb : Tryz.prog.cellsOf 146 = 3 := by kernel_rfl
theorem yYa : Tryz.prog.cellsOf 148 = 4 := by kernel_rfl
theorem yXz : Tryz.prog.cellsOf 158 = 2 := by kernel_rfl
theorem yXy : Tryz.prog.cellsOf 163 = 3 := by kernel_rfl
theorem yXx : Tryz.prog.cellsOf 165 = 1 := by kernel_rfl
theorem yXw : Tryz.prog.cellsOf 167 = 5 := by kernel_rfl
theorem yXv : Tryz.prog.cellsOf 191 = 1 := by kernel_rfl
theorem yXu : Tryz.prog.cellsOf 193 = 4 := by kernel_rfl
theorem yXt : Tryz.prog.cellsOf 205 = 1 := by kernel_rfl
theorem yXs : Tryz.prog.cellsOf 206 = 2 := by kernel_rfl
theorem yXr : Tryz.prog.cellsOf 211 = 5 := by kernel_rfl
theorem yXq : Tryz.prog.cellsOf 228 = 2 := by kernel_rfl
theorem yXp : Tryz.prog.cellsOf 234 = 1 := by kernel_rfl
theorem yXo : Tryz.prog.cellsOf 240 = 5 := by kernel_rfl
theorem yXn : Tryz.prog.cellsOf 261 = 2 := by kernel_rfl
theorem yXm : Tryz.prog.cellsOf 263 = 4 := by kernel_rfl
theorem yXl : Tryz.prog.cellsOf 289 = 32 := by kernel_rfl
theorem yXj : Tryz.prog.cellsOf 305 = 64 := by kernel_rfl
theorem yXi : Tryz.prog.cellsOf 308 = 16 := by kernel_rfl
theorem yXh : Tryz.prog.cellsOf 311 = 2 := by kernel_rfl
theorem yXg : Tryz.prog.cellsOf 313 = 14 := by kernel_rfl
theorem xSw : Tryz.prog.bytesOf 2 = 8 := by kernel_rfl
theorem xSv : Tryz.prog.bytesOf 3 = 8 := by kernel_rfl
theorem xSu : Tryz.prog.bytesOf 4 = 1 := by kernel_rfl
theorem xSt : Tryz.prog.bytesOf 5 = 1 := by kernel_rfl
theorem xKc : Tryz.prog.bytesOf 30 = 24 := by kernel_rfl
theorem xKb : Tryz.prog.bytesOf 40 = 4 := by kernel_rfl
theorem xKa : Tryz.prog.bytesOf 42 = 88 := by kernel_rfl
theorem xJz : Tryz.prog.bytesOf 54 = 24 := by kernel_rfl
theorem xJy : Tryz.prog.bytesOf 56 = 40 := by kernel_rfl
theorem xJx : Tryz.prog.bytesOf 75 = 32 := by kernel_rfl
theorem xJw : Tryz.prog.bytesOf 78 = 40 := by kernel_rfl
theorem xJv : Tryz.prog.bytesOf 94 = 24 := by kernel_rfl
theorem yYl : Tryz.prog.bytesOf 127 = 24 := by kernel_rfl
theorem yYk : Tryz.prog.bytesOf 146 = 32 := by kernel_rfl
theorem yYj : Tryz.prog.bytesOf 158 = 32 := by kernel_rfl
theorem yYi : Tryz.prog.bytesOf 163 = 16 := by kernel_rfl
theorem yYh : Tryz.prog.bytesOf 165 = 8 := by kernel_rfl
theorem yYg : Tryz.prog.bytesOf 167 = 40 := by kernel_rfl
theorem yYf : Tryz.prog.bytesOf 240 = 40 := by kernel_rfl
theorem frow2 : zAl Tryz.prog 2 = some false := by kernel_rfl
theorem frow3 : zAl Tryz.prog 3 = some false := by kernel_rfl
theorem frow4 : zAl Tryz.prog 4 = some false := by kernel_rfl
theorem xRg : zAl Tryz.prog 5 = some false := by kernel_rfl
theorem xWv : zAl Tryz.prog 22 = some false := by kernel_rfl
theorem xWu : zAl Tryz.prog 23 = some false := by kernel_rfl
theorem xWt : zAl Tryz.prog 24 = some false := by kernel_rfl
theorem xWs : zAl Tryz.prog 25 = some false := by kernel_rfl
theorem xWr : zAl Tryz.prog 26 = some false := by kernel_rfl
theorem xWq : zAl Tryz.prog 27 = some false := by kernel_rfl
theorem xWp : zAl Tryz.prog 29 = some true := by kernel_rfl
theorem xWo : zAl Tryz.prog 30 = some false := by kernel_rfl
theorem xWn : zAl Tryz.prog 32 = some true := by kernel_rfl
theorem xWm : zAl Tryz.prog 36 = some false := by kernel_rfl
theorem xWl : zAl Tryz.prog 37 = some false := by kernel_rfl
theorem xWk : zAl Tryz.prog 40 = some false := by kernel_rfl
theorem xWj : zAl Tryz.prog 42 = some true := by kernel_rfl
theorem xWi : zAl Tryz.prog 45 = some false := by kernel_rfl
theorem xWh : zAl Tryz.prog 47 = some true := by kernel_rfl
theorem xWg : zAl Tryz.prog 49 = some true := by kernel_rfl
theorem xWf : zAl Tryz.prog 51 = some true := by kernel_rfl
theorem xWe : zAl Tryz.prog 53 = some true := by kernel_rfl
theorem xWd : zAl Tryz.prog 54 = some false := by kernel_rfl
theorem xWc : zAl Tryz.prog 56 = some true := by kernel_rfl
theorem xWb : zAl Tryz.prog 57 = some false := by kernel_rfl
theorem xWa : zAl Tryz.prog 58 = some false := by kernel_rfl
theorem xVz : zAl Tryz.prog 59 = some false := by kernel_rfl
theorem xVy : zAl Tryz.prog 61 = some true := by kernel_rfl
theorem xVx : zAl Tryz.prog 75 = some true := by kernel_rfl
theorem xVw : zAl Tryz.prog 78 = some true := by kernel_rfl
theorem xVv : zAl Tryz.prog 84 = some false := by kernel_rfl
theorem xVu : zAl Tryz.prog 94 = some true := by kernel_rfl
theorem xSa : zAl Tryz.prog 104 = some true := by kernel_rfl
theorem xRz : zAl Tryz.prog 106 = some true := by kernel_rfl
theorem xRy : zAl Tryz.prog 127 = some true := by kernel_rfl
theorem xRx : zAl Tryz.prog 146 = some true := by kernel_rfl
theorem xRw : zAl Tryz.prog 148 = some true := by kernel_rfl
theorem xRv : zAl Tryz.prog 158 = some true := by kernel_rfl
theorem xRu : zAl Tryz.prog 163 = some true := by kernel_rfl
theorem xRt : zAl Tryz.prog 165 = some false := by kernel_rfl
theorem xRs : zAl Tryz.prog 167 = some true := by kernel_rfl
theorem xRr : zAl Tryz.prog 191 = some false := by kernel_rfl
theorem xRq : zAl Tryz.prog 193 = some true := by kernel_rfl
theorem xRp : zAl Tryz.prog 205 = some false := by kernel_rfl
theorem xRo : zAl Tryz.prog 206 = some true := by kernel_rfl
theorem xRn : zAl Tryz.prog 234 = some false := by kernel_rfl
theorem xRm : zAl Tryz.prog 240 = some true := by kernel_rfl
theorem xRl : zAl Tryz.prog 261 = some true := by kernel_rfl
theorem xRk : zAl Tryz.prog 289 = some true := by kernel_rfl
theorem xRj : zAl Tryz.prog 305 = some true := by kernel_rfl
theorem xRi : zAl Tryz.prog 308 = some true := by kernel_rfl
theorem xRh : zAl Tryz.prog 311 = some true := by kernel_rfl
theorem xVt : zBx Tryz.prog 2 = some (.int .i64 0) := by kernel_rfl
theorem xVs : zBx Tryz.prog 3 = some (.int .i64 0) := by kernel_rfl
theorem xVr : zBx Tryz.prog 4 = some (.bool false) := by kernel_rfl
theorem xVq : zBx Tryz.prog 5 = some (.int .u8 0) := by kernel_rfl
theorem xRf : zBx Tryz.prog 29 = some (.agg [.int .i64 0, .nilS, .nilS, .nilS, .nilS, .nilS, .int .i64 0, .int .i64 0, .int .i64 0, .int .i64 0, .int .i64 0, .nilS]) := by kernel_rfl
theorem xRe : zBx Tryz.prog 30 = some (.nilS) := by kernel_rfl
theorem xRd : zBx Tryz.prog 32 = some (.agg [.nilS]) := by kernel_rfl
theorem xRc : zBx Tryz.prog 37 = some (.int .i64 0) := by kernel_rfl
theorem xRb : zBx Tryz.prog 40 = some (.int .u32 0) := by kernel_rfl
theorem xRa : zBx Tryz.prog 42 = some (.agg [.nilS, .int .u32 0, .nilS, .bool false, .int .i64 0, .int .i64 0, .bool false]) := by kernel_rfl
theorem xQz : zBx Tryz.prog 47 = some (.agg [.nilS, .int .i64 0, .bool false]) := by kernel_rfl
theorem xQy : zBx Tryz.prog 49 = some (.agg [.int .u8 0, .int .i64 0, .bool false]) := by kernel_rfl
theorem xQx : zBx Tryz.prog 51 = some (.agg [.int .i64 0, .int .i64 0]) := by kernel_rfl
theorem xQw : zBx Tryz.prog 53 = some (.agg [.bool false, .int .u32 0, .int .i64 0]) := by kernel_rfl
theorem xQv : zBx Tryz.prog 54 = some (.nilS) := by kernel_rfl
theorem xQu : zBx Tryz.prog 56 = some (.agg [.int .i64 0, .int .i64 0, .nilS]) := by kernel_rfl
theorem xQt : zBx Tryz.prog 61 = some (.agg [.nilS, .nilS, .int .i64 0, .bool false, .int .u8 0, .int .i64 0, .bool false, .int .i64 0, .int .i64 0, .bool false, .int .u32 0, .int .i64 0, .nilS, .int .i64 0, .int .i64 0, .nilS, .int .i64 0, .nilS, .nilS, .nilS, .int .u32 0, .int .i64 0, .int .i64 0, .nilS, .nilS, .nilS, .int .u32 0]) := by kernel_rfl
theorem xQs : zBx Tryz.prog 75 = some (.agg [.int .i64 0, .int .i64 0, .int .i64 0, .int .i64 0]) := by kernel_rfl
theorem xQr : zBx Tryz.prog 78 = some (.agg [.int .u32 0, .int .i64 0, .int .i64 0, .int .i64 0, .bool false]) := by kernel_rfl
theorem xQq : zBx Tryz.prog 86 = some (.agg [.int .i64 0, .nilS, .nilS, .nilS, .nilS, .nilS, .int .i64 0, .int .i64 0, .int .i64 0, .int .i64 0, .int .i64 0, .nilS, .nilS, .nilS, .int .i64 0, .bool false, .int .u8 0, .int .i64 0, .bool false, .int .i64 0, .int .i64 0, .bool false, .int .u32 0, .int .i64 0, .nilS, .int .i64 0, .int .i64 0, .nilS, .int .i64 0, .nilS, .nilS, .nilS, .int .u32 0, .int .i64 0, .int .i64 0, .nilS, .nilS, .nilS, .int .u32 0, .nilS, .int .u32 0, .nilS, .bool false, .int .i64 0, .int .i64 0, .bool false, .nilS, .nilS, .nilS, .nilS, .nilS]) := by kernel_rfl
theorem xQp : zBx Tryz.prog 94 = some (.agg [.int .u8 0, .int .i64 0, .int .i64 0]) := by kernel_rfl
theorem xGa : zBx Tryz.prog 104 = some (.agg [.bool false, .bool false, .bool false, .bool false]) := by kernel_rfl
theorem xFz : zBx Tryz.prog 106 = some (.agg [.int .i64 0, .int .u8 0, .nilS]) := by kernel_rfl
theorem xFy : zBx Tryz.prog 127 = some (.agg [.int .u8 0, .int .i64 0, .int .i64 0]) := by kernel_rfl
theorem xFx : zBx Tryz.prog 146 = some (.agg [.int .u8 0, .int .u32 0, .nilS]) := by kernel_rfl
theorem xFw : zBx Tryz.prog 148 = some (.agg [.int .i64 0, .int .i64 0, .int .i64 0, .nilS]) := by kernel_rfl
theorem xFv : zBx Tryz.prog 158 = some (.agg [.int .i64 0, .nilS]) := by kernel_rfl
theorem xFu : zBx Tryz.prog 163 = some (.agg [.bool false, .bool false, .int .i64 0]) := by kernel_rfl
theorem xFt : zBx Tryz.prog 165 = some (.int .u64 0) := by kernel_rfl
theorem xFs : zBx Tryz.prog 167 = some (.agg [.bool false, .int .i64 0, .int .i64 0, .int .i64 0, .int .u64 0]) := by kernel_rfl
theorem xFr : zBx Tryz.prog 193 = some (.agg [.int .i64 0, .int .u8 0, .int .i64 0, .nilS]) := by kernel_rfl
theorem xFq : zBx Tryz.prog 205 = some (.nilP) := by kernel_rfl
theorem xFp : zBx Tryz.prog 206 = some (.agg [.nilP, .nilP]) := by kernel_rfl
theorem xFo : zBx Tryz.prog 211 = some (.agg [.int .i64 0, .int .u8 0, .nilS, .nilS, .bool false]) := by kernel_rfl
theorem xFn : zBx Tryz.prog 228 = some (.agg [.nilS, .bool false]) := by kernel_rfl
theorem xFm : zBx Tryz.prog 234 = some (.nilS) := by kernel_rfl
theorem xFl : zBx Tryz.prog 240 = some (.agg [.bool false, .int .i64 0, .int .u64 0, .bool false, .int .i64 0]) := by kernel_rfl
theorem xFk : zBx Tryz.prog 261 = some (.agg [.int .u8 0, .int .u8 0]) := by kernel_rfl
theorem xFj : zBx Tryz.prog 263 = some (.agg [.nilS, .bool false, .bool false, .bool false]) := by kernel_rfl
theorem xFi : zBx Tryz.prog 289 = some (.agg [.int .u8 0, .int .u8 0, .int .u8 0, .int .u8 0, .int .u8 0, .int .u8 0, .int .u8 0, .int .u8 0, .int .u8 0, .int .u8 0, .int .u8 0, .int .u8 0, .int .u8 0, .int .u8 0, .int .u8 0, .int .u8 0, .int .u8 0, .int .u8 0, .int .u8 0, .int .u8 0, .int .u8 0, .int .u8 0, .int .u8 0, .int .u8 0, .int .u8 0, .int .u8 0, .int .u8 0, .int .u8 0, .int .u8 0, .int .u8 0, .int .u8 0, .int .u8 0]) := by kernel_rfl
theorem xFh : zBx Tryz.prog 305 = some (.agg [.int .u8 0, .int .u8 0, .int .u8 0, .int .u8 0, .int .u8 0, .int .u8 0, .int .u8 0, .int .u8 0, .int .u8 0, .int .u8 0, .int .u8 0, .int .u8 0, .int .u8 0, .int .u8 0, .int .u8 0, .int .u8 0, .int .u8 0, .int .u8 0, .int .u8 0, .int .u8 0, .int .u8 0, .int .u8 0, .int .u8 0, .int .u8 0, .int .u8 0, .int .u8 0, .int .u8 0, .int .u8 0, .int .u8 0, .int .u8 0, .int .u8 0, .int .u8 0, .int .u8 0, .int .u8 0, .int .u8 0, .int .u8 0, .int .u8 0, .int .u8 0, .int .u8 0, .int .u8 0, .int .u8 0, .int .u8 0, .int .u8 0, .int .u8 0, .int .u8 0, .int .u8 0, .int .u8 0, .int .u8 0, .int .u8 0, .int .u8 0, .int .u8 0, .int .u8 0, .int .u8 0, .int .u8 0, .int .u8 0, .int .u8 0, .int .u8 0, .int .u8 0, .int .u8 0, .int .u8 0, .int .u8 0, .int .u8 0, .int .u8 0, .int .u8 0]) := by kernel_rfl
theorem xFg : zBx Tryz.prog 308 = some (.agg [.int .u32 0, .int .u32 0, .int .u32 0, .int .u32 0, .int .u32 0, .int .u32 0, .int .u32 0, .int .u32 0, .int .u32 0, .int .u32 0, .int .u32 0, .int .u32 0, .int .u32 0, .int .u32 0, .int .u32 0, .int .u32 0]) := by kernel_rfl
theorem xFf : zBx Tryz.prog 311 = some (.agg [.nilS, .bool false]) := by kernel_rfl
theorem xFe : zBx Tryz.prog 313 = some (.agg [.nilS, .bool false, .int .i64 0, .nilS, .nilS, .nilS, .nilS, .nilS, .int .i64 0, .int .i64 0, .int .i64 0, .int .i64 0, .int .i64 0, .nilS]) := by kernel_rfl
theorem fpl29 : plF Tryz.prog 29 = some (fun i => [(0, 1), (1, 1), (2, 1), (3, 1), (4, 1), (5, 1), (6, 1), (7, 1), (8, 1), (9, 1), (10, 1), (11, 1)].toArray[i]?) := by kernel_rfl
theorem fpl32 : plF Tryz.prog 32 = some (fun i => [(0, 1)].toArray[i]?) := by kernel_rfl
theorem fpl42 : plF Tryz.prog 42 = some (fun i => [(0, 1), (1, 1), (2, 1), (3, 1), (4, 1), (5, 1), (6, 1)].toArray[i]?) := by kernel_rfl
theorem fpl47 : plF Tryz.prog 47 = some (fun i => [(0, 1), (1, 1), (2, 1)].toArray[i]?) := by kernel_rfl
theorem fpl49 : plF Tryz.prog 49 = some (fun i => [(0, 1), (1, 1), (2, 1)].toArray[i]?) := by kernel_rfl
theorem fpl51 : plF Tryz.prog 51 = some (fun i => [(0, 1), (1, 1)].toArray[i]?) := by kernel_rfl
theorem fpl53 : plF Tryz.prog 53 = some (fun i => [(0, 1), (1, 1), (2, 1)].toArray[i]?) := by kernel_rfl
theorem fpl56 : plF Tryz.prog 56 = some (fun i => [(0, 1), (1, 1), (2, 1)].toArray[i]?) := by kernel_rfl
theorem fpl61 : plF Tryz.prog 61 = some (fun i => [(0, 1),
 (1, 3),
 (4, 3),
 (7, 2),
 (9, 3),
 (12, 1),
 (13, 3),
 (16, 1),
 (17, 1),
 (18, 1),
 (19, 1),
 (20, 1),
 (21, 1),
 (22, 1),
 (23, 1),
 (24, 1),
 (25, 1),
 (26, 1)].toArray[i]?) := by kernel_rfl
theorem fpl78 : plF Tryz.prog 78 = some (fun i => [(0, 1), (1, 1), (2, 1), (3, 1), (4, 1)].toArray[i]?) := by kernel_rfl
theorem fpl86 : plF Tryz.prog 86 = some (fun i => [(0, 12), (12, 27), (39, 7), (46, 1), (47, 1), (48, 1), (49, 1), (50, 1)].toArray[i]?) := by kernel_rfl
theorem fpl94 : plF Tryz.prog 94 = some (fun i => [(0, 1), (1, 1), (2, 1)].toArray[i]?) := by kernel_rfl
theorem xXn : plF Tryz.prog 104 = some (fun i => [(0, 1), (1, 1), (2, 1), (3, 1)].toArray[i]?) := by kernel_rfl
theorem xXm : plF Tryz.prog 106 = some (fun i => [(0, 1), (1, 1), (2, 1)].toArray[i]?) := by kernel_rfl
theorem xXl : plF Tryz.prog 127 = some (fun i => [(0, 1), (1, 1), (2, 1)].toArray[i]?) := by kernel_rfl
theorem xXk : plF Tryz.prog 146 = some (fun i => [(0, 1), (1, 1), (2, 1)].toArray[i]?) := by kernel_rfl
theorem xXj : plF Tryz.prog 148 = some (fun i => [(0, 1), (1, 1), (2, 1), (3, 1)].toArray[i]?) := by kernel_rfl
theorem xXi : plF Tryz.prog 158 = some (fun i => [(0, 1), (1, 1)].toArray[i]?) := by kernel_rfl
theorem xXh : plF Tryz.prog 163 = some (fun i => [(0, 1), (1, 1), (2, 1)].toArray[i]?) := by kernel_rfl
theorem xXg : plF Tryz.prog 167 = some (fun i => [(0, 1), (1, 1), (2, 1), (3, 1), (4, 1)].toArray[i]?) := by kernel_rfl
theorem xXf : plF Tryz.prog 193 = some (fun i => [(0, 1), (1, 1), (2, 1), (3, 1)].toArray[i]?) := by kernel_rfl
theorem xXe : plF Tryz.prog 211 = some (fun i => [(0, 3), (3, 1), (4, 1)].toArray[i]?) := by kernel_rfl
theorem xXd : plF Tryz.prog 228 = some (fun i => [(0, 1), (1, 1)].toArray[i]?) := by kernel_rfl
theorem xXc : plF Tryz.prog 261 = some (fun i => some (i * 1, 1)) := by kernel_rfl
theorem xXb : plF Tryz.prog 263 = some (fun i => [(0, 1), (1, 1), (2, 1), (3, 1)].toArray[i]?) := by kernel_rfl
theorem xXa : plF Tryz.prog 289 = some (fun i => some (i * 1, 1)) := by kernel_rfl
theorem xWz : plF Tryz.prog 305 = some (fun i => some (i * 1, 1)) := by kernel_rfl
theorem xWy : plF Tryz.prog 308 = some (fun i => some (i * 1, 1)) := by kernel_rfl
theorem xWx : plF Tryz.prog 311 = some (fun i => [(0, 1), (1, 1)].toArray[i]?) := by kernel_rfl
theorem xWw : plF Tryz.prog 313 = some (fun i => [(0, 2), (2, 12)].toArray[i]?) := by kernel_rfl
theorem xIb : zAp Tryz.prog 42 3 = some (3, 4) := by kernel_rfl
theorem xIe : zAp Tryz.prog 42 0 = some (0, 30) := by kernel_rfl
theorem xIa : zAp Tryz.prog 42 4 = some (4, 3) := by kernel_rfl
theorem xHz : zAp Tryz.prog 42 5 = some (5, 3) := by kernel_rfl
theorem xGn : zAp Tryz.prog 86 3 = some (46, 84) := by kernel_rfl
theorem xGk : zAp Tryz.prog 86 6 = some (49, 30) := by kernel_rfl
theorem yWm : zAp Tryz.prog 158 0 = some (0, 3) := by kernel_rfl
theorem yWl : zAp Tryz.prog 158 1 = some (1, 30) := by kernel_rfl
theorem xId : zAp Tryz.prog 42 1 = some (1, 40) := by kernel_rfl
theorem xIc : zAp Tryz.prog 42 2 = some (2, 30) := by kernel_rfl
theorem xGo : zAp Tryz.prog 86 2 = some (39, 42) := by kernel_rfl
theorem xHy : zAp Tryz.prog 42 6 = some (6, 4) := by kernel_rfl
theorem xGl : zAp Tryz.prog 86 5 = some (48, 30) := by kernel_rfl
theorem xGm : zAp Tryz.prog 86 4 = some (47, 57) := by kernel_rfl
theorem xIp : zAp Tryz.prog 29 0 = some (0, 3) := by kernel_rfl
theorem xGj : zAp Tryz.prog 86 7 = some (50, 30) := by kernel_rfl
theorem yUy : zAp Tryz.prog 61 17 = some (26, 40) := by kernel_rfl
theorem xGi : zAp Tryz.prog 94 0 = some (0, 5) := by kernel_rfl
theorem xIj : zAp Tryz.prog 29 6 = some (6, 3) := by kernel_rfl
theorem yVj : zAp Tryz.prog 29 11 = some (11, 27) := by kernel_rfl
theorem xHj : zAp Tryz.prog 61 0 = some (0, 32) := by kernel_rfl
theorem xHg : zAp Tryz.prog 61 3 = some (7, 51) := by kernel_rfl
theorem xHc : zAp Tryz.prog 61 7 = some (16, 3) := by kernel_rfl
theorem yVd : zAp Tryz.prog 61 12 = some (21, 3) := by kernel_rfl
theorem yVc : zAp Tryz.prog 61 13 = some (22, 3) := by kernel_rfl
theorem xHi : zAp Tryz.prog 61 1 = some (1, 47) := by kernel_rfl
theorem xHh : zAp Tryz.prog 61 2 = some (4, 49) := by kernel_rfl
theorem xHf : zAp Tryz.prog 61 4 = some (9, 53) := by kernel_rfl
theorem xHe : zAp Tryz.prog 61 5 = some (12, 30) := by kernel_rfl
theorem xHd : zAp Tryz.prog 61 6 = some (13, 56) := by kernel_rfl
theorem xIf : zAp Tryz.prog 32 0 = some (0, 30) := by kernel_rfl
theorem xIi : zAp Tryz.prog 29 7 = some (7, 3) := by kernel_rfl
theorem xHu : zAp Tryz.prog 49 0 = some (0, 5) := by kernel_rfl
theorem xHt : zAp Tryz.prog 49 1 = some (1, 3) := by kernel_rfl
theorem xGt : zAp Tryz.prog 78 2 = some (2, 3) := by kernel_rfl
theorem xHq : zAp Tryz.prog 51 1 = some (1, 3) := by kernel_rfl
theorem xHr : zAp Tryz.prog 51 0 = some (0, 3) := by kernel_rfl
theorem xGq : zAp Tryz.prog 86 0 = some (0, 29) := by kernel_rfl
theorem xGp : zAp Tryz.prog 86 1 = some (12, 61) := by kernel_rfl
theorem xGs : zAp Tryz.prog 78 3 = some (3, 3) := by kernel_rfl
theorem yWc : zAp Tryz.prog 193 0 = some (0, 3) := by kernel_rfl
theorem yWb : zAp Tryz.prog 193 1 = some (1, 5) := by kernel_rfl
theorem yWa : zAp Tryz.prog 193 2 = some (2, 3) := by kernel_rfl
theorem yVz : zAp Tryz.prog 193 3 = some (3, 191) := by kernel_rfl
theorem xGu : zAp Tryz.prog 78 1 = some (1, 3) := by kernel_rfl
theorem xIg : zAp Tryz.prog 29 9 = some (9, 3) := by kernel_rfl
theorem yVk : zAp Tryz.prog 29 10 = some (10, 3) := by kernel_rfl
theorem yVf : zAp Tryz.prog 61 10 = some (19, 59) := by kernel_rfl
theorem xHb : zAp Tryz.prog 61 8 = some (17, 57) := by kernel_rfl
theorem yVe : zAp Tryz.prog 61 11 = some (20, 40) := by kernel_rfl
theorem xHa : zAp Tryz.prog 61 9 = some (18, 58) := by kernel_rfl
theorem yUz : zAp Tryz.prog 61 16 = some (25, 54) := by kernel_rfl
theorem yVa : zAp Tryz.prog 61 15 = some (24, 54) := by kernel_rfl
theorem yVb : zAp Tryz.prog 61 14 = some (23, 54) := by kernel_rfl
theorem yVl : zAp Tryz.prog 263 3 = some (3, 4) := by kernel_rfl
theorem yVm : zAp Tryz.prog 263 2 = some (2, 4) := by kernel_rfl
theorem yVn : zAp Tryz.prog 263 1 = some (1, 4) := by kernel_rfl
theorem yVo : zAp Tryz.prog 263 0 = some (0, 30) := by kernel_rfl
theorem xHn : zAp Tryz.prog 53 2 = some (2, 3) := by kernel_rfl
theorem xHp : zAp Tryz.prog 53 0 = some (0, 4) := by kernel_rfl
theorem xHo : zAp Tryz.prog 53 1 = some (1, 40) := by kernel_rfl
theorem yVu : zAp Tryz.prog 228 1 = some (1, 4) := by kernel_rfl
theorem yVv : zAp Tryz.prog 228 0 = some (0, 30) := by kernel_rfl
theorem yWq : zAp Tryz.prog 148 0 = some (0, 3) := by kernel_rfl
theorem yWp : zAp Tryz.prog 148 1 = some (1, 3) := by kernel_rfl
theorem yWo : zAp Tryz.prog 148 2 = some (2, 3) := by kernel_rfl
theorem yWn : zAp Tryz.prog 148 3 = some (3, 54) := by kernel_rfl
theorem yWx : zAp Tryz.prog 106 2 = some (2, 27) := by kernel_rfl
theorem yWy : zAp Tryz.prog 106 1 = some (1, 5) := by kernel_rfl
theorem yWe : zAp Tryz.prog 167 3 = some (3, 3) := by kernel_rfl
theorem yWg : zAp Tryz.prog 167 1 = some (1, 3) := by kernel_rfl
theorem yWd : zAp Tryz.prog 167 4 = some (4, 165) := by kernel_rfl
theorem xGy : zAp Tryz.prog 75 1 = some (1, 3) := by kernel_rfl
theorem xGx : zAp Tryz.prog 75 2 = some (2, 3) := by kernel_rfl
theorem yVr : zAp Tryz.prog 240 2 = some (2, 165) := by kernel_rfl
theorem xGw : zAp Tryz.prog 75 3 = some (3, 3) := by kernel_rfl
theorem xIh : zAp Tryz.prog 29 8 = some (8, 3) := by kernel_rfl
theorem xIk : zAp Tryz.prog 29 5 = some (5, 26) := by kernel_rfl
theorem xGz : zAp Tryz.prog 75 0 = some (0, 3) := by kernel_rfl
theorem xHs : zAp Tryz.prog 49 2 = some (2, 4) := by kernel_rfl
theorem yXa : zAp Tryz.prog 104 3 = some (3, 4) := by kernel_rfl
theorem yXd : zAp Tryz.prog 104 0 = some (0, 4) := by kernel_rfl
theorem yXb : zAp Tryz.prog 104 2 = some (2, 4) := by kernel_rfl
theorem yXc : zAp Tryz.prog 104 1 = some (1, 4) := by kernel_rfl
theorem xGr : zAp Tryz.prog 78 4 = some (4, 4) := by kernel_rfl
theorem yWh : zAp Tryz.prog 167 0 = some (0, 4) := by kernel_rfl
theorem yWf : zAp Tryz.prog 167 2 = some (2, 3) := by kernel_rfl
theorem yWv : zAp Tryz.prog 127 1 = some (1, 3) := by kernel_rfl
theorem xGh : zAp Tryz.prog 94 1 = some (1, 3) := by kernel_rfl
theorem xGg : zAp Tryz.prog 94 2 = some (2, 3) := by kernel_rfl
theorem yWu : zAp Tryz.prog 127 2 = some (2, 3) := by kernel_rfl
theorem xHx : zAp Tryz.prog 47 0 = some (0, 45) := by kernel_rfl
theorem yWs : zAp Tryz.prog 146 1 = some (1, 40) := by kernel_rfl
theorem yWt : zAp Tryz.prog 146 0 = some (0, 5) := by kernel_rfl
theorem yWr : zAp Tryz.prog 146 2 = some (2, 30) := by kernel_rfl
theorem xIn : zAp Tryz.prog 29 2 = some (2, 23) := by kernel_rfl
theorem xGv : zAp Tryz.prog 78 0 = some (0, 40) := by kernel_rfl
theorem xIm : zAp Tryz.prog 29 3 = some (3, 24) := by kernel_rfl
theorem yVx : zAp Tryz.prog 211 1 = some (3, 36) := by kernel_rfl
theorem yVw : zAp Tryz.prog 211 2 = some (4, 4) := by kernel_rfl
theorem yVy : zAp Tryz.prog 211 0 = some (0, 106) := by kernel_rfl
theorem yWz : zAp Tryz.prog 106 0 = some (0, 3) := by kernel_rfl
theorem xHm : zAp Tryz.prog 56 0 = some (0, 3) := by kernel_rfl
theorem xHl : zAp Tryz.prog 56 1 = some (1, 3) := by kernel_rfl
theorem yVs : zAp Tryz.prog 240 1 = some (1, 3) := by kernel_rfl
theorem yVp : zAp Tryz.prog 240 4 = some (4, 3) := by kernel_rfl
theorem yVt : zAp Tryz.prog 240 0 = some (0, 4) := by kernel_rfl
theorem yVq : zAp Tryz.prog 240 3 = some (3, 4) := by kernel_rfl
theorem xIo : zAp Tryz.prog 29 1 = some (1, 22) := by kernel_rfl
theorem xHv : zAp Tryz.prog 47 2 = some (2, 4) := by kernel_rfl
theorem xHw : zAp Tryz.prog 47 1 = some (1, 3) := by kernel_rfl
theorem yWw : zAp Tryz.prog 127 0 = some (0, 5) := by kernel_rfl
theorem xIl : zAp Tryz.prog 29 4 = some (4, 25) := by kernel_rfl
theorem yWj : zAp Tryz.prog 163 1 = some (1, 4) := by kernel_rfl
theorem yWi : zAp Tryz.prog 163 2 = some (2, 3) := by kernel_rfl
theorem yWk : zAp Tryz.prog 163 0 = some (0, 4) := by kernel_rfl
theorem yVg : zAp Tryz.prog 313 0 = some (0, 311) := by kernel_rfl
theorem xHk : zAp Tryz.prog 56 2 = some (2, 54) := by kernel_rfl
theorem yVh : zAp Tryz.prog 311 1 = some (1, 4) := by kernel_rfl
theorem yVi : zAp Tryz.prog 311 0 = some (0, 30) := by kernel_rfl
theorem xIq : zYt Tryz.prog 261 = none := by kernel_rfl
theorem xKd : xLa Tryz.prog 261 = true := by kernel_rfl
attribute [go_sem] xSq xSp xSo xSn xSm xSl xSk xSj xSi xSh xSg xSf xSe xSd xSc xIy xIx xIv xIu xTa xSz xSy xSx xIw xIt xIs xIr xSs yXk xSr yXf xJu xJt xJs xJr xJq xJp xJo xJn xJm xJl xJk yJv yJu xJj xJi xJh xJg xJf yJt yJs xJe xJd xJc xJb yJr yJq xJa xIz yJp yYe yYd yYc yYb yYa yXz yXy yXx yXw yXv yXu yXt yXs yXr yXq yXp yXo yXn yXm yXl yXj yXi yXh yXg xSw xSv xSu xSt xKc xKb xKa xJz xJy xJx xJw xJv yYl yYk yYj yYi yYh yYg yYf frow2 frow3 frow4 xRg xWv xWu xWt xWs xWr xWq xWp xWo xWn xWm xWl xWk xWj xWi xWh xWg xWf xWe xWd xWc xWb xWa xVz xVy xVx xVw xVv xVu xSa xRz xRy xRx xRw xRv xRu xRt xRs xRr xRq xRp xRo xRn xRm xRl xRk xRj xRi xRh xVt xVs xVr xVq xRf xRe xRd xRc xRb xRa xQz xQy xQx xQw xQv xQu xQt xQs xQr xQq xQp xGa xFz xFy xFx xFw xFv xFu xFt xFs xFr xFq xFp xFo xFn xFm xFl xFk xFj xFi xFh xFg xFf xFe fpl29 fpl32 fpl42 fpl47 fpl49 fpl51 fpl53 fpl56 fpl61 fpl78 fpl86 fpl94 xXn xXm xXl xXk xXj xXi xXh xXg xXf xXe xXd xXc xXb xXa xWz xWy xWx xWw xIb xIe xIa xHz xGn xGk yWm yWl xId xIc xGo xHy xGl xGm xIp xGj yUy xGi xIj yVj xHj xHg xHc yVd yVc xHi xHh xHf xHe xHd xIf xIi xHu xHt xGt xHq xHr xGq xGp xGs yWc yWb yWa yVz xGu xIg yVk yVf xHb yVe xHa yUz yVa yVb yVl yVm yVn yVo xHn xHp xHo yVu yVv yWq yWp yWo yWn yWx yWy yWe yWg yWd xGy xGx yVr xGw xIh xIk xGz xHs yXa yXd yXb yXc xGr yWh yWf yWv xGh xGg yWu xHx yWs yWt yWr xIn xGv xIm yVx yVw yVy yWz xHm xHl yVs yVp yVt yVq xIo xHv xHw yWw xIl yWj yWi yWk yVg xHk yVh yVi xIq xKd Tryz.underlying2 Tryz.underlying3 Tryz.underlying4 Tryz.underlying5 Tryz.underlying9 Tryz.underlying37 Tryz.underlying40 Tryz.underlying76 Tryz.underlying165 Tryz.underlying212
end Go.Proofs.YtlgbdpabcbcmcaaGreatDoor
