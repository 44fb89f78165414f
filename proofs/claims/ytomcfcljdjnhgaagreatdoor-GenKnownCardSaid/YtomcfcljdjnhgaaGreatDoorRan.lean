/- The run of the law GenKnown by the interpreter, in the kernel: it answers true. No condition. -/
import Derived.Test.YtomcfcljdjnhgaaGreatDoorKn
namespace Go.Proofs.YtomcfcljdjnhgaaGreatDoor
open Go Go.Proofs.Vai
set_option maxRecDepth 1000000 in
theorem ran : isT (run Tryz.prog (orcOf [k0, k1, k3, k4]) 100000 (.call 4 [] none) AAct.none (vstart blocks)) = true := by kernel_rfl
end Go.Proofs.YtomcfcljdjnhgaaGreatDoor
