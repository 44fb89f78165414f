/- One call of the law MachineKnown, by the interpreter, in the kernel. -/
import Derived.Test.YthaimknbmaeomaaGreatDoorBlocks
import Derived.Test.YthaimknbmaeomaaGreatDoorRan0
namespace Go.Proofs.YthaimknbmaeomaaGreatDoor
open Go Go.Proofs.Vai
/-- The call, and what it comes to. -/
noncomputable def k2 : FuncId × List PArg × ORes := (4, [.val (.agg [.int .i64 1, .int .i64 0, .int .i64 0, .str [55]]), .row 1 [.str [55]], .val (.nilslice), .row 2 [.int .i64 26, .int .i64 0, .int .i64 0, .int .i64 0, .int .i64 28, .int .i64 0, .int .i64 0, .int .i64 0]], .flat (.bool true))
set_option maxRecDepth 1000000 in
theorem ran2 : isFlat (.bool true) (run Tryz.prog (orcOf [k0]) 100000 (.call 4 (argsOf [.val (.agg [.int .i64 1, .int .i64 0, .int .i64 0, .str [55]]), .row 1 [.str [55]], .val (.nilslice), .row 2 [.int .i64 26, .int .i64 0, .int .i64 0, .int .i64 0, .int .i64 28, .int .i64 0, .int .i64 0, .int .i64 0]] blocks.length) none) AAct.none (vstart (blocks ++ rowsOf [.val (.agg [.int .i64 1, .int .i64 0, .int .i64 0, .str [55]]), .row 1 [.str [55]], .val (.nilslice), .row 2 [.int .i64 26, .int .i64 0, .int .i64 0, .int .i64 0, .int .i64 28, .int .i64 0, .int .i64 0, .int .i64 0]]))) = true := by kernel_rfl
/-- The call, and what it comes to. -/
noncomputable def k3 : FuncId × List PArg × ORes := (4, [.val (.agg [.int .i64 3, .int .i64 0, .int .i64 4, .str []]), .row 1 [.str [120]], .val (.nilslice), .row 2 [.int .i64 26, .int .i64 0, .int .i64 0, .int .i64 0, .int .i64 28, .int .i64 0, .int .i64 0, .int .i64 0]], .flat (.bool true))
set_option maxRecDepth 1000000 in
theorem ran3 : isFlat (.bool true) (run Tryz.prog (orcOf [k0]) 100000 (.call 4 (argsOf [.val (.agg [.int .i64 3, .int .i64 0, .int .i64 4, .str []]), .row 1 [.str [120]], .val (.nilslice), .row 2 [.int .i64 26, .int .i64 0, .int .i64 0, .int .i64 0, .int .i64 28, .int .i64 0, .int .i64 0, .int .i64 0]] blocks.length) none) AAct.none (vstart (blocks ++ rowsOf [.val (.agg [.int .i64 3, .int .i64 0, .int .i64 4, .str []]), .row 1 [.str [120]], .val (.nilslice), .row 2 [.int .i64 26, .int .i64 0, .int .i64 0, .int .i64 0, .int .i64 28, .int .i64 0, .int .i64 0, .int .i64 0]]))) = true := by kernel_rfl
/-- The call, and what it comes to. -/
noncomputable def k4 : FuncId × List PArg × ORes := (4, [.val (.agg [.int .i64 3, .int .i64 0, .int .i64 3, .str []]), .val (.nilslice), .val (.nilslice), .row 2 [.int .i64 26, .int .i64 0, .int .i64 0, .int .i64 0, .int .i64 28, .int .i64 0, .int .i64 0, .int .i64 0]], .flat (.bool true))
set_option maxRecDepth 1000000 in
theorem ran4 : isFlat (.bool true) (run Tryz.prog (orcOf [k0]) 100000 (.call 4 (argsOf [.val (.agg [.int .i64 3, .int .i64 0, .int .i64 3, .str []]), .val (.nilslice), .val (.nilslice), .row 2 [.int .i64 26, .int .i64 0, .int .i64 0, .int .i64 0, .int .i64 28, .int .i64 0, .int .i64 0, .int .i64 0]] blocks.length) none) AAct.none (vstart (blocks ++ rowsOf [.val (.agg [.int .i64 3, .int .i64 0, .int .i64 3, .str []]), .val (.nilslice), .val (.nilslice), .row 2 [.int .i64 26, .int .i64 0, .int .i64 0, .int .i64 0, .int .i64 28, .int .i64 0, .int .i64 0, .int .i64 0]]))) = true := by kernel_rfl
end Go.Proofs.YthaimknbmaeomaaGreatDoor
