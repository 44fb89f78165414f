/- The run of the law WatchKnown by the interpreter, in the kernel: it answers true. No condition. -/
import Derived.Test.YtmlmbfkfkkbdmaaGreatDoorBlocks
namespace Go.Proofs.YtmlmbfkfkkbdmaaGreatDoor
open Go Go.Proofs.Vai
set_option maxRecDepth 1000000 in
theorem ran : isT (run Tryz.prog (orcOf []) 100000 (.call 3 [] none) AAct.none (vstart blocks)) = true := by kernel_rfl
end Go.Proofs.YtmlmbfkfkkbdmaaGreatDoor
