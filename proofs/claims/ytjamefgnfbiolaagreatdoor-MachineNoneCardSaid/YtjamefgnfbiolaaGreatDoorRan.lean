/- The run of the law MachineNone by the interpreter, in the kernel: it answers true. No condition. -/
import Derived.Test.YtjamefgnfbiolaaGreatDoorKn
namespace Go.Proofs.YtjamefgnfbiolaaGreatDoor
open Go Go.Proofs.Vai
set_option maxRecDepth 1000000 in
theorem ran0r : isT (run Tryz.prog (orcOf [k8, k10]) 100000 (.call 3 [.sym 1] none) AAct.none (vstart blocks)) = true := by kernel_rfl
set_option maxRecDepth 1000000 in
theorem ran1r : isT (run Tryz.prog (orcOf [k8, k10]) 100000 (.call 3 [.sym 2] none) AAct.none (vstart blocks)) = true := by kernel_rfl
end Go.Proofs.YtjamefgnfbiolaaGreatDoor
