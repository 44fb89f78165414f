/- One call of the law MachineKnown, by the interpreter, in the kernel. -/
import Derived.Test.YthaimknbmaeomaaGreatDoorBlocks
namespace Go.Proofs.YthaimknbmaeomaaGreatDoor
open Go Go.Proofs.Vai
/-- The call, and what it comes to. -/
noncomputable def k0 : FuncId × List PArg × ORes := (261, [.val .nilslice], .ptr 435 (List.replicate 1600 (.bool true)))
set_option maxRecDepth 1000000 in
theorem ran0 : isRow 435 (List.replicate 1600 (.bool true)) (run Tryz.prog (orcOf []) 100000 (.call 261 (argsOf [.val .nilslice] blocks.length) none) AAct.none (vstart (blocks ++ rowsOf [.val .nilslice]))) = true := by kernel_rfl
end Go.Proofs.YthaimknbmaeomaaGreatDoor
