/- One call of the law ElabKnown, by the interpreter, in the kernel. -/
import Derived.Test.YtaccpglmmnhjkaaGreatDoorBlocks
import Derived.Test.YtaccpglmmnhjkaaGreatDoorRan0
namespace Go.Proofs.YtaccpglmmnhjkaaGreatDoor
open Go Go.Proofs.Vai
/-- The call, and what it comes to. -/
noncomputable def k1 : FuncId × List PArg × ORes := (10, [], .flat (.bool true))
set_option maxRecDepth 1000000 in
theorem ran1 : isFlat (.bool true) (run Tryz.prog (orcOf [k0]) 100000 (.call 10 (argsOf [] blocks.length) none) AAct.none (vstart (blocks ++ rowsOf []))) = true := by kernel_rfl
end Go.Proofs.YtaccpglmmnhjkaaGreatDoor
