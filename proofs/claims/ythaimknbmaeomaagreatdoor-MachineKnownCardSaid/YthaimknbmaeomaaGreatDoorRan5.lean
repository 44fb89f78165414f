/- One call of the law MachineKnown, by the interpreter, in the kernel. -/
import Derived.Test.YthaimknbmaeomaaGreatDoorBlocks
import Derived.Test.YthaimknbmaeomaaGreatDoorRan0
namespace Go.Proofs.YthaimknbmaeomaaGreatDoor
open Go Go.Proofs.Vai
/-- The call, and what it comes to. -/
noncomputable def k5 : FuncId × List PArg × ORes := (4, [.val (.agg [.int .i64 1, .int .i64 0, .int .i64 0, .str [40, 41]]), .val (.nilslice), .row 1 [.str [53]], .row 5 [.int .i64 1, .int .i64 2, .int .i64 0, .int .i64 0, .int .i64 1, .int .i64 3, .int .i64 0, .int .i64 0, .int .i64 13, .int .i64 4, .int .i64 1, .int .i64 0, .int .i64 27, .int .i64 0, .int .i64 0, .int .i64 0, .int .i64 28, .int .i64 0, .int .i64 0, .int .i64 0]], .flat (.bool true))
set_option maxRecDepth 1000000 in
theorem ran5 : isFlat (.bool true) (run Tryz.prog (orcOf [k0]) 100000 (.call 4 (argsOf [.val (.agg [.int .i64 1, .int .i64 0, .int .i64 0, .str [40, 41]]), .val (.nilslice), .row 1 [.str [53]], .row 5 [.int .i64 1, .int .i64 2, .int .i64 0, .int .i64 0, .int .i64 1, .int .i64 3, .int .i64 0, .int .i64 0, .int .i64 13, .int .i64 4, .int .i64 1, .int .i64 0, .int .i64 27, .int .i64 0, .int .i64 0, .int .i64 0, .int .i64 28, .int .i64 0, .int .i64 0, .int .i64 0]] blocks.length) none) AAct.none (vstart (blocks ++ rowsOf [.val (.agg [.int .i64 1, .int .i64 0, .int .i64 0, .str [40, 41]]), .val (.nilslice), .row 1 [.str [53]], .row 5 [.int .i64 1, .int .i64 2, .int .i64 0, .int .i64 0, .int .i64 1, .int .i64 3, .int .i64 0, .int .i64 0, .int .i64 13, .int .i64 4, .int .i64 1, .int .i64 0, .int .i64 27, .int .i64 0, .int .i64 0, .int .i64 0, .int .i64 28, .int .i64 0, .int .i64 0, .int .i64 0]]))) = true := by kernel_rfl
end Go.Proofs.YthaimknbmaeomaaGreatDoor
