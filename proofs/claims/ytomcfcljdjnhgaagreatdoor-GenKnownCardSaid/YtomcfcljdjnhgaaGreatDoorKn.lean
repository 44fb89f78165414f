/- Calls of the law GenKnown, and what they come to. -/
import Derived.Test.YtomcfcljdjnhgaaGreatDoorBlocks
namespace Go.Proofs.YtomcfcljdjnhgaaGreatDoor
open Go Go.Proofs.Vai
noncomputable def k0 : FuncId × List PArg × ORes := (123, [.agg [.val (.int .i64 1), .val (.str []), .val (.str []), .val (.str []), .val (.int .i64 0), .row 1 [.val (.int .i64 6), .val (.str []), .val (.str []), .val (.str []), .val (.int .i64 0), .row 1 [.val (.int .i64 7), .val (.str []), .val (.str []), .val (.str []), .val (.int .i64 1), .val (.nilslice)]]]], .tree (.val (.agg [.int .i64 0, .int .i64 0])))
noncomputable def k1 : FuncId × List PArg × ORes := (38, [.val (.iface 135 (.agg [.int .i64 7]))], .tree (.val (.int .i64 7)))
noncomputable def k2 : FuncId × List PArg × ORes := (157, [.val (.agg [.nilslice]), .val (.str [105, 110, 116])], .tree (.val (.bool true)))
noncomputable def k3 : FuncId × List PArg × ORes := (101, [.val (.nilslice), .row 2 [.val (.str [105, 110, 116]), .val (.str [105, 110, 116])]], .tree (.val (.bool true)))
noncomputable def k4 : FuncId × List PArg × ORes := (101, [.val (.nilslice), .row 2 [.val (.str [117, 110, 105, 116]), .val (.str [117, 110, 105, 116])]], .tree (.val (.bool true)))
end Go.Proofs.YtomcfcljdjnhgaaGreatDoor
