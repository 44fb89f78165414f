/- Calls of the law GenKnown, by the interpreter, in the kernel. -/
import Derived.Test.YtomcfcljdjnhgaaGreatDoorKn
namespace Go.Proofs.YtomcfcljdjnhgaaGreatDoor
open Go Go.Proofs.Vai
set_option maxRecDepth 1000000 in
theorem ran0 : isTree (.val (.agg [.int .i64 0, .int .i64 0])) (run Tryz.prog (orcOf []) 100000 (.call 123 (layArgs [.agg [.val (.int .i64 1), .val (.str []), .val (.str []), .val (.str []), .val (.int .i64 0), .row 1 [.val (.int .i64 6), .val (.str []), .val (.str []), .val (.str []), .val (.int .i64 0), .row 1 [.val (.int .i64 7), .val (.str []), .val (.str []), .val (.str []), .val (.int .i64 1), .val (.nilslice)]]]] blocks.length).1 none) AAct.none (vstart (blocks ++ (layArgs [.agg [.val (.int .i64 1), .val (.str []), .val (.str []), .val (.str []), .val (.int .i64 0), .row 1 [.val (.int .i64 6), .val (.str []), .val (.str []), .val (.str []), .val (.int .i64 0), .row 1 [.val (.int .i64 7), .val (.str []), .val (.str []), .val (.str []), .val (.int .i64 1), .val (.nilslice)]]]] blocks.length).2))) = true := by kernel_rfl
set_option maxRecDepth 1000000 in
theorem ran2 : isTree (.val (.bool true)) (run Tryz.prog (orcOf []) 100000 (.call 157 (layArgs [.val (.agg [.nilslice]), .val (.str [105, 110, 116])] blocks.length).1 none) AAct.none (vstart (blocks ++ (layArgs [.val (.agg [.nilslice]), .val (.str [105, 110, 116])] blocks.length).2))) = true := by kernel_rfl
set_option maxRecDepth 1000000 in
theorem ran3 : isTree (.val (.bool true)) (run Tryz.prog (orcOf [k2]) 100000 (.call 101 (layArgs [.val (.nilslice), .row 2 [.val (.str [105, 110, 116]), .val (.str [105, 110, 116])]] blocks.length).1 none) AAct.none (vstart (blocks ++ (layArgs [.val (.nilslice), .row 2 [.val (.str [105, 110, 116]), .val (.str [105, 110, 116])]] blocks.length).2))) = true := by kernel_rfl
set_option maxRecDepth 1000000 in
theorem ran4 : isTree (.val (.bool true)) (run Tryz.prog (orcOf []) 100000 (.call 101 (layArgs [.val (.nilslice), .row 2 [.val (.str [117, 110, 105, 116]), .val (.str [117, 110, 105, 116])]] blocks.length).1 none) AAct.none (vstart (blocks ++ (layArgs [.val (.nilslice), .row 2 [.val (.str [117, 110, 105, 116]), .val (.str [117, 110, 105, 116])]] blocks.length).2))) = true := by kernel_rfl
end Go.Proofs.YtomcfcljdjnhgaaGreatDoor
