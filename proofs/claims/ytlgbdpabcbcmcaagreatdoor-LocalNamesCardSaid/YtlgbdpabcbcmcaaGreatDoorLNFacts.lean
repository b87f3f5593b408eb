/- Closed facts on the types of the translation, printed by a program. -/
import Derived.Test.YtlgbdpabcbcmcaaGreatDoorLNAmSimp
import Derived.Test.YtlgbdpabcbcmcaaGreatDoorChecked
namespace Go.Proofs.YtlgbdpabcbcmcaaGreatDoor
open Go.AM
theorem mixed:Tryz.prog.follows .mixedOrders=true:=Tryz.checked.mixed
theorem xRw:zAu Tryz.prog 22=some 94:=by kernel_rfl
theorem xRv:zAu Tryz.prog 23=some 40:=by kernel_rfl
theorem xRu:zAu Tryz.prog 24=some 54:=by kernel_rfl
theorem xRt:zAu Tryz.prog 25=some 78:=by kernel_rfl
theorem xRs:zAu Tryz.prog 26=some 75:=by kernel_rfl
theorem xRr:zAu Tryz.prog 27=some 56:=by kernel_rfl
theorem xRq:zAu Tryz.prog 30=some 5:=by kernel_rfl
theorem xRp:zAu Tryz.prog 33=some 42:=by kernel_rfl
theorem xRo:zAu Tryz.prog 36=some 30:=by kernel_rfl
theorem xRn:zAu Tryz.prog 45=some 127:=by kernel_rfl
theorem xRm:zAu Tryz.prog 54=some 3:=by kernel_rfl
theorem xRl:zAu Tryz.prog 57=some 163:=by kernel_rfl
theorem xRk:zAu Tryz.prog 58=some 240:=by kernel_rfl
theorem xRj:zAu Tryz.prog 59=some 167:=by kernel_rfl
theorem xRi:zAu Tryz.prog 84=some 158:=by kernel_rfl
theorem xIq:zAu Tryz.prog 140=some 146:=by kernel_rfl
theorem xIp:zAu Tryz.prog 191=some 2:=by kernel_rfl
theorem xIn:zAu Tryz.prog 234=some 4:=by kernel_rfl
theorem xIm:zAu Tryz.prog 274=some 165:=by kernel_rfl
theorem xSi:zIf Tryz.prog 206=some (2,205):=by kernel_rfl
theorem xSh:zIf Tryz.prog 289=some (32,5):=by kernel_rfl
theorem xSg:zIf Tryz.prog 305=some (64,5):=by kernel_rfl
theorem xSf:zIf Tryz.prog 308=some (16,40):=by kernel_rfl
theorem xIo:zAu Tryz.prog 206=none:=by kernel_rfl
theorem xIl:zAu Tryz.prog 289=none:=by kernel_rfl
theorem xIk:zAu Tryz.prog 305=none:=by kernel_rfl
theorem xIj:zAu Tryz.prog 308=none:=by kernel_rfl
theorem xSa:Tryz.prog.cellsOf 2=1:=by kernel_rfl
theorem xRz:Tryz.prog.cellsOf 3=1:=by kernel_rfl
theorem xRy:Tryz.prog.cellsOf 4=1:=by kernel_rfl
theorem xRx:Tryz.prog.cellsOf 5=1:=by kernel_rfl
theorem xJt:Tryz.prog.cellsOf 22=1:=by kernel_rfl
theorem xJs:Tryz.prog.cellsOf 23=1:=by kernel_rfl
theorem xJr:Tryz.prog.cellsOf 24=1:=by kernel_rfl
theorem xJq:Tryz.prog.cellsOf 25=1:=by kernel_rfl
theorem xJp:Tryz.prog.cellsOf 26=1:=by kernel_rfl
theorem xJo:Tryz.prog.cellsOf 27=1:=by kernel_rfl
theorem xJn:Tryz.prog.cellsOf 29=12:=by kernel_rfl
theorem xJm:Tryz.prog.cellsOf 30=1:=by kernel_rfl
theorem xJl:Tryz.prog.cellsOf 32=1:=by kernel_rfl
theorem xJk:Tryz.prog.cellsOf 36=1:=by kernel_rfl
theorem xJj:Tryz.prog.cellsOf 37=1:=by kernel_rfl
theorem xJi:Tryz.prog.cellsOf 40=1:=by kernel_rfl
theorem xJh:Tryz.prog.cellsOf 42=7:=by kernel_rfl
theorem xJg:Tryz.prog.cellsOf 45=1:=by kernel_rfl
theorem xJf:Tryz.prog.cellsOf 47=3:=by kernel_rfl
theorem xJe:Tryz.prog.cellsOf 49=3:=by kernel_rfl
theorem xJd:Tryz.prog.cellsOf 51=2:=by kernel_rfl
theorem xJc:Tryz.prog.cellsOf 53=3:=by kernel_rfl
theorem xJb:Tryz.prog.cellsOf 54=1:=by kernel_rfl
theorem xJa:Tryz.prog.cellsOf 56=3:=by kernel_rfl
theorem xIz:Tryz.prog.cellsOf 57=1:=by kernel_rfl
theorem xIy:Tryz.prog.cellsOf 58=1:=by kernel_rfl
theorem xIx:Tryz.prog.cellsOf 59=1:=by kernel_rfl
theorem xIw:Tryz.prog.cellsOf 61=27:=by kernel_rfl
theorem xIv:Tryz.prog.cellsOf 75=4:=by kernel_rfl
theorem xIu:Tryz.prog.cellsOf 78=5:=by kernel_rfl
theorem xIt:Tryz.prog.cellsOf 84=1:=by kernel_rfl
theorem xIs:Tryz.prog.cellsOf 86=51:=by kernel_rfl
theorem xIr:Tryz.prog.cellsOf 94=3:=by kernel_rfl
theorem yXx:Tryz.prog.cellsOf 104=4:=by kernel_rfl
theorem yXw:Tryz.prog.cellsOf 106=3:=by kernel_rfl
theorem yXv:Tryz.prog.cellsOf 127=3:=by kernel_rfl
theorem yXu:Tryz.prog.cellsOf 146=3:=by kernel_rfl
theorem yXt:Tryz.prog.cellsOf 148=4:=by kernel_rfl
theorem yXs:Tryz.prog.cellsOf 158=2:=by kernel_rfl
theorem yXr:Tryz.prog.cellsOf 163=3:=by kernel_rfl
theorem yXq:Tryz.prog.cellsOf 165=1:=by kernel_rfl
theorem yXp:Tryz.prog.cellsOf 167=5:=by kernel_rfl
theorem yXo:Tryz.prog.cellsOf 191=1:=by kernel_rfl
theorem yXn:Tryz.prog.cellsOf 193=4:=by kernel_rfl
theorem yXm:Tryz.prog.cellsOf 205=1:=by kernel_rfl
theorem yXl:Tryz.prog.cellsOf 206=2:=by kernel_rfl
theorem yXk:Tryz.prog.cellsOf 211=5:=by kernel_rfl
theorem yXj:Tryz.prog.cellsOf 228=2:=by kernel_rfl
theorem yXi:Tryz.prog.cellsOf 234=1:=by kernel_rfl
theorem yXh:Tryz.prog.cellsOf 240=5:=by kernel_rfl
theorem yXg:Tryz.prog.cellsOf 261=2:=by kernel_rfl
theorem yXf:Tryz.prog.cellsOf 263=4:=by kernel_rfl
theorem yXe:Tryz.prog.cellsOf 289=32:=by kernel_rfl
theorem yXd:Tryz.prog.cellsOf 305=64:=by kernel_rfl
theorem yXc:Tryz.prog.cellsOf 308=16:=by kernel_rfl
theorem yXb:Tryz.prog.cellsOf 311=2:=by kernel_rfl
theorem yXa:Tryz.prog.cellsOf 313=14:=by kernel_rfl
theorem xSe:Tryz.prog.bytesOf 2=8:=by kernel_rfl
theorem xSd:Tryz.prog.bytesOf 3=8:=by kernel_rfl
theorem xSc:Tryz.prog.bytesOf 4=1:=by kernel_rfl
theorem xSb:Tryz.prog.bytesOf 5=1:=by kernel_rfl
theorem xKb:Tryz.prog.bytesOf 30=24:=by kernel_rfl
theorem xKa:Tryz.prog.bytesOf 40=4:=by kernel_rfl
theorem xJz:Tryz.prog.bytesOf 42=88:=by kernel_rfl
theorem xJy:Tryz.prog.bytesOf 54=24:=by kernel_rfl
theorem xJx:Tryz.prog.bytesOf 56=40:=by kernel_rfl
theorem xJw:Tryz.prog.bytesOf 75=32:=by kernel_rfl
theorem xJv:Tryz.prog.bytesOf 78=40:=by kernel_rfl
theorem xJu:Tryz.prog.bytesOf 94=24:=by kernel_rfl
theorem yYe:Tryz.prog.bytesOf 127=24:=by kernel_rfl
theorem yYd:Tryz.prog.bytesOf 146=32:=by kernel_rfl
theorem yYc:Tryz.prog.bytesOf 158=32:=by kernel_rfl
theorem yYb:Tryz.prog.bytesOf 163=16:=by kernel_rfl
theorem yYa:Tryz.prog.bytesOf 165=8:=by kernel_rfl
theorem yXz:Tryz.prog.bytesOf 167=40:=by kernel_rfl
theorem yXy:Tryz.prog.bytesOf 240=40:=by kernel_rfl
theorem frow2:zAn Tryz.prog 2=some false:=by kernel_rfl
theorem frow3:zAn Tryz.prog 3=some false:=by kernel_rfl
theorem frow4:zAn Tryz.prog 4=some false:=by kernel_rfl
theorem xQm:zAn Tryz.prog 5=some false:=by kernel_rfl
theorem xWa:zAn Tryz.prog 22=some false:=by kernel_rfl
theorem xVz:zAn Tryz.prog 23=some false:=by kernel_rfl
theorem xVy:zAn Tryz.prog 24=some false:=by kernel_rfl
theorem xVx:zAn Tryz.prog 25=some false:=by kernel_rfl
theorem xVw:zAn Tryz.prog 26=some false:=by kernel_rfl
theorem xVv:zAn Tryz.prog 27=some false:=by kernel_rfl
theorem xVu:zAn Tryz.prog 29=some true:=by kernel_rfl
theorem xVt:zAn Tryz.prog 30=some false:=by kernel_rfl
theorem xVs:zAn Tryz.prog 32=some true:=by kernel_rfl
theorem xVr:zAn Tryz.prog 36=some false:=by kernel_rfl
theorem xVq:zAn Tryz.prog 37=some false:=by kernel_rfl
theorem xVp:zAn Tryz.prog 40=some false:=by kernel_rfl
theorem xVo:zAn Tryz.prog 42=some true:=by kernel_rfl
theorem xVn:zAn Tryz.prog 45=some false:=by kernel_rfl
theorem xVm:zAn Tryz.prog 47=some true:=by kernel_rfl
theorem xVl:zAn Tryz.prog 49=some true:=by kernel_rfl
theorem xVk:zAn Tryz.prog 51=some true:=by kernel_rfl
theorem xVj:zAn Tryz.prog 53=some true:=by kernel_rfl
theorem xVi:zAn Tryz.prog 54=some false:=by kernel_rfl
theorem xVh:zAn Tryz.prog 56=some true:=by kernel_rfl
theorem xVg:zAn Tryz.prog 57=some false:=by kernel_rfl
theorem xVf:zAn Tryz.prog 58=some false:=by kernel_rfl
theorem xVe:zAn Tryz.prog 59=some false:=by kernel_rfl
theorem xVd:zAn Tryz.prog 61=some true:=by kernel_rfl
theorem xVc:zAn Tryz.prog 75=some true:=by kernel_rfl
theorem xVb:zAn Tryz.prog 78=some true:=by kernel_rfl
theorem xVa:zAn Tryz.prog 84=some false:=by kernel_rfl
theorem xUz:zAn Tryz.prog 94=some true:=by kernel_rfl
theorem xRg:zAn Tryz.prog 104=some true:=by kernel_rfl
theorem xRf:zAn Tryz.prog 106=some true:=by kernel_rfl
theorem xRe:zAn Tryz.prog 127=some true:=by kernel_rfl
theorem xRd:zAn Tryz.prog 146=some true:=by kernel_rfl
theorem xRc:zAn Tryz.prog 148=some true:=by kernel_rfl
theorem xRb:zAn Tryz.prog 158=some true:=by kernel_rfl
theorem xRa:zAn Tryz.prog 163=some true:=by kernel_rfl
theorem xQz:zAn Tryz.prog 165=some false:=by kernel_rfl
theorem xQy:zAn Tryz.prog 167=some true:=by kernel_rfl
theorem xQx:zAn Tryz.prog 191=some false:=by kernel_rfl
theorem xQw:zAn Tryz.prog 193=some true:=by kernel_rfl
theorem xQv:zAn Tryz.prog 205=some false:=by kernel_rfl
theorem xQu:zAn Tryz.prog 206=some true:=by kernel_rfl
theorem xQt:zAn Tryz.prog 234=some false:=by kernel_rfl
theorem xQs:zAn Tryz.prog 240=some true:=by kernel_rfl
theorem xQr:zAn Tryz.prog 261=some true:=by kernel_rfl
theorem xQq:zAn Tryz.prog 289=some true:=by kernel_rfl
theorem xQp:zAn Tryz.prog 305=some true:=by kernel_rfl
theorem xQo:zAn Tryz.prog 308=some true:=by kernel_rfl
theorem xQn:zAn Tryz.prog 311=some true:=by kernel_rfl
theorem xUy:zBw Tryz.prog 2=some (.int .i64 0):=by kernel_rfl
theorem xUx:zBw Tryz.prog 3=some (.int .i64 0):=by kernel_rfl
theorem xUw:zBw Tryz.prog 4=some (.bool false):=by kernel_rfl
theorem xUv:zBw Tryz.prog 5=some (.int .u8 0):=by kernel_rfl
theorem xQl:zBw Tryz.prog 29=some (.agg [.int .i64 0,.nilS,.nilS,.nilS,.nilS,.nilS,.int .i64 0,.int .i64 0,.int .i64 0,.int .i64 0,.int .i64 0,.nilS]):=by kernel_rfl
theorem xQk:zBw Tryz.prog 30=some (.nilS):=by kernel_rfl
theorem xQj:zBw Tryz.prog 32=some (.agg [.nilS]):=by kernel_rfl
theorem xQi:zBw Tryz.prog 37=some (.int .i64 0):=by kernel_rfl
theorem xQh:zBw Tryz.prog 40=some (.int .u32 0):=by kernel_rfl
theorem xQg:zBw Tryz.prog 42=some (.agg [.nilS,.int .u32 0,.nilS,.bool false,.int .i64 0,.int .i64 0,.bool false]):=by kernel_rfl
theorem xQf:zBw Tryz.prog 47=some (.agg [.nilS,.int .i64 0,.bool false]):=by kernel_rfl
theorem xQe:zBw Tryz.prog 49=some (.agg [.int .u8 0,.int .i64 0,.bool false]):=by kernel_rfl
theorem xQd:zBw Tryz.prog 51=some (.agg [.int .i64 0,.int .i64 0]):=by kernel_rfl
theorem xQc:zBw Tryz.prog 53=some (.agg [.bool false,.int .u32 0,.int .i64 0]):=by kernel_rfl
theorem xQb:zBw Tryz.prog 54=some (.nilS):=by kernel_rfl
theorem xQa:zBw Tryz.prog 56=some (.agg [.int .i64 0,.int .i64 0,.nilS]):=by kernel_rfl
theorem xPz:zBw Tryz.prog 61=some (.agg [.nilS,.nilS,.int .i64 0,.bool false,.int .u8 0,.int .i64 0,.bool false,.int .i64 0,.int .i64 0,.bool false,.int .u32 0,.int .i64 0,.nilS,.int .i64 0,.int .i64 0,.nilS,.int .i64 0,.nilS,.nilS,.nilS,.int .u32 0,.int .i64 0,.int .i64 0,.nilS,.nilS,.nilS,.int .u32 0]):=by kernel_rfl
theorem xPy:zBw Tryz.prog 75=some (.agg [.int .i64 0,.int .i64 0,.int .i64 0,.int .i64 0]):=by kernel_rfl
theorem xPx:zBw Tryz.prog 78=some (.agg [.int .u32 0,.int .i64 0,.int .i64 0,.int .i64 0,.bool false]):=by kernel_rfl
theorem xPw:zBw Tryz.prog 86=some (.agg [.int .i64 0,.nilS,.nilS,.nilS,.nilS,.nilS,.int .i64 0,.int .i64 0,.int .i64 0,.int .i64 0,.int .i64 0,.nilS,.nilS,.nilS,.int .i64 0,.bool false,.int .u8 0,.int .i64 0,.bool false,.int .i64 0,.int .i64 0,.bool false,.int .u32 0,.int .i64 0,.nilS,.int .i64 0,.int .i64 0,.nilS,.int .i64 0,.nilS,.nilS,.nilS,.int .u32 0,.int .i64 0,.int .i64 0,.nilS,.nilS,.nilS,.int .u32 0,.nilS,.int .u32 0,.nilS,.bool false,.int .i64 0,.int .i64 0,.bool false,.nilS,.nilS,.nilS,.nilS,.nilS]):=by kernel_rfl
theorem xPv:zBw Tryz.prog 94=some (.agg [.int .u8 0,.int .i64 0,.int .i64 0]):=by kernel_rfl
theorem xFs:zBw Tryz.prog 104=some (.agg [.bool false,.bool false,.bool false,.bool false]):=by kernel_rfl
theorem xFr:zBw Tryz.prog 106=some (.agg [.int .i64 0,.int .u8 0,.nilS]):=by kernel_rfl
theorem xFq:zBw Tryz.prog 127=some (.agg [.int .u8 0,.int .i64 0,.int .i64 0]):=by kernel_rfl
theorem xFp:zBw Tryz.prog 146=some (.agg [.int .u8 0,.int .u32 0,.nilS]):=by kernel_rfl
theorem xFo:zBw Tryz.prog 148=some (.agg [.int .i64 0,.int .i64 0,.int .i64 0,.nilS]):=by kernel_rfl
theorem xFn:zBw Tryz.prog 158=some (.agg [.int .i64 0,.nilS]):=by kernel_rfl
theorem xFm:zBw Tryz.prog 163=some (.agg [.bool false,.bool false,.int .i64 0]):=by kernel_rfl
theorem xFl:zBw Tryz.prog 165=some (.int .u64 0):=by kernel_rfl
theorem xFk:zBw Tryz.prog 167=some (.agg [.bool false,.int .i64 0,.int .i64 0,.int .i64 0,.int .u64 0]):=by kernel_rfl
theorem xFj:zBw Tryz.prog 193=some (.agg [.int .i64 0,.int .u8 0,.int .i64 0,.nilS]):=by kernel_rfl
theorem xFi:zBw Tryz.prog 205=some (.nilP):=by kernel_rfl
theorem xFh:zBw Tryz.prog 206=some (.agg [.nilP,.nilP]):=by kernel_rfl
theorem xFg:zBw Tryz.prog 211=some (.agg [.int .i64 0,.int .u8 0,.nilS,.nilS,.bool false]):=by kernel_rfl
theorem xFf:zBw Tryz.prog 228=some (.agg [.nilS,.bool false]):=by kernel_rfl
theorem xFe:zBw Tryz.prog 234=some (.nilS):=by kernel_rfl
theorem xFd:zBw Tryz.prog 240=some (.agg [.bool false,.int .i64 0,.int .u64 0,.bool false,.int .i64 0]):=by kernel_rfl
theorem xFc:zBw Tryz.prog 261=some (.agg [.int .u8 0,.int .u8 0]):=by kernel_rfl
theorem xFb:zBw Tryz.prog 263=some (.agg [.nilS,.bool false,.bool false,.bool false]):=by kernel_rfl
theorem xFa:zBw Tryz.prog 289=some (.agg [.int .u8 0,.int .u8 0,.int .u8 0,.int .u8 0,.int .u8 0,.int .u8 0,.int .u8 0,.int .u8 0,.int .u8 0,.int .u8 0,.int .u8 0,.int .u8 0,.int .u8 0,.int .u8 0,.int .u8 0,.int .u8 0,.int .u8 0,.int .u8 0,.int .u8 0,.int .u8 0,.int .u8 0,.int .u8 0,.int .u8 0,.int .u8 0,.int .u8 0,.int .u8 0,.int .u8 0,.int .u8 0,.int .u8 0,.int .u8 0,.int .u8 0,.int .u8 0]):=by kernel_rfl
theorem xEz:zBw Tryz.prog 305=some (.agg [.int .u8 0,.int .u8 0,.int .u8 0,.int .u8 0,.int .u8 0,.int .u8 0,.int .u8 0,.int .u8 0,.int .u8 0,.int .u8 0,.int .u8 0,.int .u8 0,.int .u8 0,.int .u8 0,.int .u8 0,.int .u8 0,.int .u8 0,.int .u8 0,.int .u8 0,.int .u8 0,.int .u8 0,.int .u8 0,.int .u8 0,.int .u8 0,.int .u8 0,.int .u8 0,.int .u8 0,.int .u8 0,.int .u8 0,.int .u8 0,.int .u8 0,.int .u8 0,.int .u8 0,.int .u8 0,.int .u8 0,.int .u8 0,.int .u8 0,.int .u8 0,.int .u8 0,.int .u8 0,.int .u8 0,.int .u8 0,.int .u8 0,.int .u8 0,.int .u8 0,.int .u8 0,.int .u8 0,.int .u8 0,.int .u8 0,.int .u8 0,.int .u8 0,.int .u8 0,.int .u8 0,.int .u8 0,.int .u8 0,.int .u8 0,.int .u8 0,.int .u8 0,.int .u8 0,.int .u8 0,.int .u8 0,.int .u8 0,.int .u8 0,.int .u8 0]):=by kernel_rfl
theorem xEy:zBw Tryz.prog 308=some (.agg [.int .u32 0,.int .u32 0,.int .u32 0,.int .u32 0,.int .u32 0,.int .u32 0,.int .u32 0,.int .u32 0,.int .u32 0,.int .u32 0,.int .u32 0,.int .u32 0,.int .u32 0,.int .u32 0,.int .u32 0,.int .u32 0]):=by kernel_rfl
theorem xEx:zBw Tryz.prog 311=some (.agg [.nilS,.bool false]):=by kernel_rfl
theorem xEw:zBw Tryz.prog 313=some (.agg [.nilS,.bool false,.int .i64 0,.nilS,.nilS,.nilS,.nilS,.nilS,.int .i64 0,.int .i64 0,.int .i64 0,.int .i64 0,.int .i64 0,.nilS]):=by kernel_rfl
theorem fpl29:plF Tryz.prog 29=some (fun i=>[(0,1),(1,1),(2,1),(3,1),(4,1),(5,1),(6,1),(7,1),(8,1),(9,1),(10,1),(11,1)].toArray[i]?):=by kernel_rfl
theorem fpl32:plF Tryz.prog 32=some (fun i=>[(0,1)].toArray[i]?):=by kernel_rfl
theorem fpl42:plF Tryz.prog 42=some (fun i=>[(0,1),(1,1),(2,1),(3,1),(4,1),(5,1),(6,1)].toArray[i]?):=by kernel_rfl
theorem fpl47:plF Tryz.prog 47=some (fun i=>[(0,1),(1,1),(2,1)].toArray[i]?):=by kernel_rfl
theorem fpl49:plF Tryz.prog 49=some (fun i=>[(0,1),(1,1),(2,1)].toArray[i]?):=by kernel_rfl
theorem fpl51:plF Tryz.prog 51=some (fun i=>[(0,1),(1,1)].toArray[i]?):=by kernel_rfl
theorem fpl53:plF Tryz.prog 53=some (fun i=>[(0,1),(1,1),(2,1)].toArray[i]?):=by kernel_rfl
theorem fpl56:plF Tryz.prog 56=some (fun i=>[(0,1),(1,1),(2,1)].toArray[i]?):=by kernel_rfl
theorem fpl61:plF Tryz.prog 61=some (fun i=>[(0,1),
 (1,3),
 (4,3),
 (7,2),
 (9,3),
 (12,1),
 (13,3),
 (16,1),
 (17,1),
 (18,1),
 (19,1),
 (20,1),
 (21,1),
 (22,1),
 (23,1),
 (24,1),
 (25,1),
 (26,1)].toArray[i]?):=by kernel_rfl
theorem fpl78:plF Tryz.prog 78=some (fun i=>[(0,1),(1,1),(2,1),(3,1),(4,1)].toArray[i]?):=by kernel_rfl
theorem fpl86:plF Tryz.prog 86=some (fun i=>[(0,12),(12,27),(39,7),(46,1),(47,1),(48,1),(49,1),(50,1)].toArray[i]?):=by kernel_rfl
theorem fpl94:plF Tryz.prog 94=some (fun i=>[(0,1),(1,1),(2,1)].toArray[i]?):=by kernel_rfl
theorem xWs:plF Tryz.prog 104=some (fun i=>[(0,1),(1,1),(2,1),(3,1)].toArray[i]?):=by kernel_rfl
theorem xWr:plF Tryz.prog 106=some (fun i=>[(0,1),(1,1),(2,1)].toArray[i]?):=by kernel_rfl
theorem xWq:plF Tryz.prog 127=some (fun i=>[(0,1),(1,1),(2,1)].toArray[i]?):=by kernel_rfl
theorem xWp:plF Tryz.prog 146=some (fun i=>[(0,1),(1,1),(2,1)].toArray[i]?):=by kernel_rfl
theorem xWo:plF Tryz.prog 148=some (fun i=>[(0,1),(1,1),(2,1),(3,1)].toArray[i]?):=by kernel_rfl
theorem xWn:plF Tryz.prog 158=some (fun i=>[(0,1),(1,1)].toArray[i]?):=by kernel_rfl
theorem xWm:plF Tryz.prog 163=some (fun i=>[(0,1),(1,1),(2,1)].toArray[i]?):=by kernel_rfl
theorem xWl:plF Tryz.prog 167=some (fun i=>[(0,1),(1,1),(2,1),(3,1),(4,1)].toArray[i]?):=by kernel_rfl
theorem xWk:plF Tryz.prog 193=some (fun i=>[(0,1),(1,1),(2,1),(3,1)].toArray[i]?):=by kernel_rfl
theorem xWj:plF Tryz.prog 211=some (fun i=>[(0,3),(3,1),(4,1)].toArray[i]?):=by kernel_rfl
theorem xWi:plF Tryz.prog 228=some (fun i=>[(0,1),(1,1)].toArray[i]?):=by kernel_rfl
theorem xWh:plF Tryz.prog 261=some (fun i=>some (i*1,1)):=by kernel_rfl
theorem xWg:plF Tryz.prog 263=some (fun i=>[(0,1),(1,1),(2,1),(3,1)].toArray[i]?):=by kernel_rfl
theorem xWf:plF Tryz.prog 289=some (fun i=>some (i*1,1)):=by kernel_rfl
theorem xWe:plF Tryz.prog 305=some (fun i=>some (i*1,1)):=by kernel_rfl
theorem xWd:plF Tryz.prog 308=some (fun i=>some (i*1,1)):=by kernel_rfl
theorem xWc:plF Tryz.prog 311=some (fun i=>[(0,1),(1,1)].toArray[i]?):=by kernel_rfl
theorem xWb:plF Tryz.prog 313=some (fun i=>[(0,2),(2,12)].toArray[i]?):=by kernel_rfl
theorem xHt:zAq Tryz.prog 42 3=some (3,4):=by kernel_rfl
theorem xHw:zAq Tryz.prog 42 0=some (0,30):=by kernel_rfl
theorem xHs:zAq Tryz.prog 42 4=some (4,3):=by kernel_rfl
theorem xHr:zAq Tryz.prog 42 5=some (5,3):=by kernel_rfl
theorem xGf:zAq Tryz.prog 86 3=some (46,84):=by kernel_rfl
theorem xGc:zAq Tryz.prog 86 6=some (49,30):=by kernel_rfl
theorem yWh:zAq Tryz.prog 158 0=some (0,3):=by kernel_rfl
theorem yWg:zAq Tryz.prog 158 1=some (1,30):=by kernel_rfl
theorem xHv:zAq Tryz.prog 42 1=some (1,40):=by kernel_rfl
theorem xHu:zAq Tryz.prog 42 2=some (2,30):=by kernel_rfl
theorem xGg:zAq Tryz.prog 86 2=some (39,42):=by kernel_rfl
theorem xHq:zAq Tryz.prog 42 6=some (6,4):=by kernel_rfl
theorem xGd:zAq Tryz.prog 86 5=some (48,30):=by kernel_rfl
theorem xGe:zAq Tryz.prog 86 4=some (47,57):=by kernel_rfl
theorem xIh:zAq Tryz.prog 29 0=some (0,3):=by kernel_rfl
theorem xGb:zAq Tryz.prog 86 7=some (50,30):=by kernel_rfl
theorem yUt:zAq Tryz.prog 61 17=some (26,40):=by kernel_rfl
theorem xGa:zAq Tryz.prog 94 0=some (0,5):=by kernel_rfl
theorem xIb:zAq Tryz.prog 29 6=some (6,3):=by kernel_rfl
theorem yVe:zAq Tryz.prog 29 11=some (11,27):=by kernel_rfl
theorem xHb:zAq Tryz.prog 61 0=some (0,32):=by kernel_rfl
theorem xGy:zAq Tryz.prog 61 3=some (7,51):=by kernel_rfl
theorem xGu:zAq Tryz.prog 61 7=some (16,3):=by kernel_rfl
theorem yUy:zAq Tryz.prog 61 12=some (21,3):=by kernel_rfl
theorem yUx:zAq Tryz.prog 61 13=some (22,3):=by kernel_rfl
theorem xHa:zAq Tryz.prog 61 1=some (1,47):=by kernel_rfl
theorem xGz:zAq Tryz.prog 61 2=some (4,49):=by kernel_rfl
theorem xGx:zAq Tryz.prog 61 4=some (9,53):=by kernel_rfl
theorem xGw:zAq Tryz.prog 61 5=some (12,30):=by kernel_rfl
theorem xGv:zAq Tryz.prog 61 6=some (13,56):=by kernel_rfl
theorem xHx:zAq Tryz.prog 32 0=some (0,30):=by kernel_rfl
theorem xIa:zAq Tryz.prog 29 7=some (7,3):=by kernel_rfl
theorem xHm:zAq Tryz.prog 49 0=some (0,5):=by kernel_rfl
theorem xHl:zAq Tryz.prog 49 1=some (1,3):=by kernel_rfl
theorem xGl:zAq Tryz.prog 78 2=some (2,3):=by kernel_rfl
theorem xHi:zAq Tryz.prog 51 1=some (1,3):=by kernel_rfl
theorem xHj:zAq Tryz.prog 51 0=some (0,3):=by kernel_rfl
theorem xGi:zAq Tryz.prog 86 0=some (0,29):=by kernel_rfl
theorem xGh:zAq Tryz.prog 86 1=some (12,61):=by kernel_rfl
theorem xGk:zAq Tryz.prog 78 3=some (3,3):=by kernel_rfl
theorem yVx:zAq Tryz.prog 193 0=some (0,3):=by kernel_rfl
theorem yVw:zAq Tryz.prog 193 1=some (1,5):=by kernel_rfl
theorem yVv:zAq Tryz.prog 193 2=some (2,3):=by kernel_rfl
theorem yVu:zAq Tryz.prog 193 3=some (3,191):=by kernel_rfl
theorem xGm:zAq Tryz.prog 78 1=some (1,3):=by kernel_rfl
theorem xHy:zAq Tryz.prog 29 9=some (9,3):=by kernel_rfl
theorem yVf:zAq Tryz.prog 29 10=some (10,3):=by kernel_rfl
theorem yVa:zAq Tryz.prog 61 10=some (19,59):=by kernel_rfl
theorem xGt:zAq Tryz.prog 61 8=some (17,57):=by kernel_rfl
theorem yUz:zAq Tryz.prog 61 11=some (20,40):=by kernel_rfl
theorem xGs:zAq Tryz.prog 61 9=some (18,58):=by kernel_rfl
theorem yUu:zAq Tryz.prog 61 16=some (25,54):=by kernel_rfl
theorem yUv:zAq Tryz.prog 61 15=some (24,54):=by kernel_rfl
theorem yUw:zAq Tryz.prog 61 14=some (23,54):=by kernel_rfl
theorem yVg:zAq Tryz.prog 263 3=some (3,4):=by kernel_rfl
theorem yVh:zAq Tryz.prog 263 2=some (2,4):=by kernel_rfl
theorem yVi:zAq Tryz.prog 263 1=some (1,4):=by kernel_rfl
theorem yVj:zAq Tryz.prog 263 0=some (0,30):=by kernel_rfl
theorem xHf:zAq Tryz.prog 53 2=some (2,3):=by kernel_rfl
theorem xHh:zAq Tryz.prog 53 0=some (0,4):=by kernel_rfl
theorem xHg:zAq Tryz.prog 53 1=some (1,40):=by kernel_rfl
theorem yVp:zAq Tryz.prog 228 1=some (1,4):=by kernel_rfl
theorem yVq:zAq Tryz.prog 228 0=some (0,30):=by kernel_rfl
theorem yWl:zAq Tryz.prog 148 0=some (0,3):=by kernel_rfl
theorem yWk:zAq Tryz.prog 148 1=some (1,3):=by kernel_rfl
theorem yWj:zAq Tryz.prog 148 2=some (2,3):=by kernel_rfl
theorem yWi:zAq Tryz.prog 148 3=some (3,54):=by kernel_rfl
theorem yWs:zAq Tryz.prog 106 2=some (2,27):=by kernel_rfl
theorem yWt:zAq Tryz.prog 106 1=some (1,5):=by kernel_rfl
theorem yVz:zAq Tryz.prog 167 3=some (3,3):=by kernel_rfl
theorem yWb:zAq Tryz.prog 167 1=some (1,3):=by kernel_rfl
theorem yVy:zAq Tryz.prog 167 4=some (4,165):=by kernel_rfl
theorem xGq:zAq Tryz.prog 75 1=some (1,3):=by kernel_rfl
theorem xGp:zAq Tryz.prog 75 2=some (2,3):=by kernel_rfl
theorem yVm:zAq Tryz.prog 240 2=some (2,165):=by kernel_rfl
theorem xGo:zAq Tryz.prog 75 3=some (3,3):=by kernel_rfl
theorem xHz:zAq Tryz.prog 29 8=some (8,3):=by kernel_rfl
theorem xIc:zAq Tryz.prog 29 5=some (5,26):=by kernel_rfl
theorem xGr:zAq Tryz.prog 75 0=some (0,3):=by kernel_rfl
theorem xHk:zAq Tryz.prog 49 2=some (2,4):=by kernel_rfl
theorem yWv:zAq Tryz.prog 104 3=some (3,4):=by kernel_rfl
theorem yWy:zAq Tryz.prog 104 0=some (0,4):=by kernel_rfl
theorem yWw:zAq Tryz.prog 104 2=some (2,4):=by kernel_rfl
theorem yWx:zAq Tryz.prog 104 1=some (1,4):=by kernel_rfl
theorem xGj:zAq Tryz.prog 78 4=some (4,4):=by kernel_rfl
theorem yWc:zAq Tryz.prog 167 0=some (0,4):=by kernel_rfl
theorem yWa:zAq Tryz.prog 167 2=some (2,3):=by kernel_rfl
theorem yWq:zAq Tryz.prog 127 1=some (1,3):=by kernel_rfl
theorem xFz:zAq Tryz.prog 94 1=some (1,3):=by kernel_rfl
theorem xFy:zAq Tryz.prog 94 2=some (2,3):=by kernel_rfl
theorem yWp:zAq Tryz.prog 127 2=some (2,3):=by kernel_rfl
theorem xHp:zAq Tryz.prog 47 0=some (0,45):=by kernel_rfl
theorem yWn:zAq Tryz.prog 146 1=some (1,40):=by kernel_rfl
theorem yWo:zAq Tryz.prog 146 0=some (0,5):=by kernel_rfl
theorem yWm:zAq Tryz.prog 146 2=some (2,30):=by kernel_rfl
theorem xIf:zAq Tryz.prog 29 2=some (2,23):=by kernel_rfl
theorem xGn:zAq Tryz.prog 78 0=some (0,40):=by kernel_rfl
theorem xIe:zAq Tryz.prog 29 3=some (3,24):=by kernel_rfl
theorem yVs:zAq Tryz.prog 211 1=some (3,36):=by kernel_rfl
theorem yVr:zAq Tryz.prog 211 2=some (4,4):=by kernel_rfl
theorem yVt:zAq Tryz.prog 211 0=some (0,106):=by kernel_rfl
theorem yWu:zAq Tryz.prog 106 0=some (0,3):=by kernel_rfl
theorem xHe:zAq Tryz.prog 56 0=some (0,3):=by kernel_rfl
theorem xHd:zAq Tryz.prog 56 1=some (1,3):=by kernel_rfl
theorem yVn:zAq Tryz.prog 240 1=some (1,3):=by kernel_rfl
theorem yVk:zAq Tryz.prog 240 4=some (4,3):=by kernel_rfl
theorem yVo:zAq Tryz.prog 240 0=some (0,4):=by kernel_rfl
theorem yVl:zAq Tryz.prog 240 3=some (3,4):=by kernel_rfl
theorem xIg:zAq Tryz.prog 29 1=some (1,22):=by kernel_rfl
theorem xHn:zAq Tryz.prog 47 2=some (2,4):=by kernel_rfl
theorem xHo:zAq Tryz.prog 47 1=some (1,3):=by kernel_rfl
theorem yWr:zAq Tryz.prog 127 0=some (0,5):=by kernel_rfl
theorem xId:zAq Tryz.prog 29 4=some (4,25):=by kernel_rfl
theorem yWe:zAq Tryz.prog 163 1=some (1,4):=by kernel_rfl
theorem yWd:zAq Tryz.prog 163 2=some (2,3):=by kernel_rfl
theorem yWf:zAq Tryz.prog 163 0=some (0,4):=by kernel_rfl
theorem yVb:zAq Tryz.prog 313 0=some (0,311):=by kernel_rfl
theorem xHc:zAq Tryz.prog 56 2=some (2,54):=by kernel_rfl
theorem yVc:zAq Tryz.prog 311 1=some (1,4):=by kernel_rfl
theorem yVd:zAq Tryz.prog 311 0=some (0,30):=by kernel_rfl
theorem xIi:zZf Tryz.prog 261=none:=by kernel_rfl
theorem xKc:xKy Tryz.prog 261=true:=by kernel_rfl
attribute [go_sem] xRw xRv xRu xRt xRs xRr xRq xRp xRo xRn xRm xRl xRk xRj xRi xIq xIp xIn xIm xSi xSh xSg xSf xIo xIl xIk xIj xSa xRz xRy xRx xJt xJs xJr xJq xJp xJo xJn xJm xJl xJk xJj xJi xJh xJg xJf xJe xJd xJc xJb xJa xIz xIy xIx xIw xIv xIu xIt xIs xIr yXx yXw yXv yXu yXt yXs yXr yXq yXp yXo yXn yXm yXl yXk yXj yXi yXh yXg yXf yXe yXd yXc yXb yXa xSe xSd xSc xSb xKb xKa xJz xJy xJx xJw xJv xJu yYe yYd yYc yYb yYa yXz yXy frow2 frow3 frow4 xQm xWa xVz xVy xVx xVw xVv xVu xVt xVs xVr xVq xVp xVo xVn xVm xVl xVk xVj xVi xVh xVg xVf xVe xVd xVc xVb xVa xUz xRg xRf xRe xRd xRc xRb xRa xQz xQy xQx xQw xQv xQu xQt xQs xQr xQq xQp xQo xQn xUy xUx xUw xUv xQl xQk xQj xQi xQh xQg xQf xQe xQd xQc xQb xQa xPz xPy xPx xPw xPv xFs xFr xFq xFp xFo xFn xFm xFl xFk xFj xFi xFh xFg xFf xFe xFd xFc xFb xFa xEz xEy xEx xEw fpl29 fpl32 fpl42 fpl47 fpl49 fpl51 fpl53 fpl56 fpl61 fpl78 fpl86 fpl94 xWs xWr xWq xWp xWo xWn xWm xWl xWk xWj xWi xWh xWg xWf xWe xWd xWc xWb xHt xHw xHs xHr xGf xGc yWh yWg xHv xHu xGg xHq xGd xGe xIh xGb yUt xGa xIb yVe xHb xGy xGu yUy yUx xHa xGz xGx xGw xGv xHx xIa xHm xHl xGl xHi xHj xGi xGh xGk yVx yVw yVv yVu xGm xHy yVf yVa xGt yUz xGs yUu yUv yUw yVg yVh yVi yVj xHf xHh xHg yVp yVq yWl yWk yWj yWi yWs yWt yVz yWb yVy xGq xGp yVm xGo xHz xIc xGr xHk yWv yWy yWw yWx xGj yWc yWa yWq xFz xFy yWp xHp yWn yWo yWm xIf xGn xIe yVs yVr yVt yWu xHe xHd yVn yVk yVo yVl xIg xHn xHo yWr xId yWe yWd yWf yVb xHc yVc yVd xIi xKc Tryz.underlying2 Tryz.underlying3 Tryz.underlying4 Tryz.underlying5 Tryz.underlying9 Tryz.underlying37 Tryz.underlying40 Tryz.underlying76 Tryz.underlying165 Tryz.underlying212
end Go.Proofs.YtlgbdpabcbcmcaaGreatDoor
