/- The run of the law MachineKnown by the interpreter, in the kernel: it answers true. No condition. -/
import Derived.Test.YthaimknbmaeomaaGreatDoorBlocks
import Derived.Test.YthaimknbmaeomaaGreatDoorRan0
import Derived.Test.YthaimknbmaeomaaGreatDoorRan1
import Derived.Test.YthaimknbmaeomaaGreatDoorRan2
import Derived.Test.YthaimknbmaeomaaGreatDoorRan5
import Derived.Test.YthaimknbmaeomaaGreatDoorRan6
import Derived.Test.YthaimknbmaeomaaGreatDoorRan7
namespace Go.Proofs.YthaimknbmaeomaaGreatDoor
open Go Go.Proofs.Vai
set_option maxRecDepth 1000000 in
theorem ran : isT (run Tryz.prog (orcOf [k0, k1, k2, k3, k4, k5, k6, k7]) 100000 (.call 3 [] none) AAct.none (vstart blocks)) = true := by kernel_rfl
end Go.Proofs.YthaimknbmaeomaaGreatDoor
