/- The run of the law ElabKnown by the interpreter, in the kernel: it answers true. No condition. -/
import Derived.Test.YtaccpglmmnhjkaaGreatDoorBlocks
import Derived.Test.YtaccpglmmnhjkaaGreatDoorRan0
import Derived.Test.YtaccpglmmnhjkaaGreatDoorRan1
namespace Go.Proofs.YtaccpglmmnhjkaaGreatDoor
open Go Go.Proofs.Vai
set_option maxRecDepth 1000000 in
theorem ran : isT (run Tryz.prog (orcOf [k0, k1]) 100000 (.call 3 [] none) AAct.none (vstart blocks)) = true := by kernel_rfl
end Go.Proofs.YtaccpglmmnhjkaaGreatDoor
