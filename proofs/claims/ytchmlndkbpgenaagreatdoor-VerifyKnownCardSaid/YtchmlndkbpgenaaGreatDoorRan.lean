/- The run of the law VerifyKnown by the interpreter, in the kernel: it answers true. No condition. -/
import Derived.Test.YtchmlndkbpgenaaGreatDoorVaiStart
import Derived.Test.YtchmlndkbpgenaaGreatDoorProg
import Derived.KernelRfl
namespace Go.Proofs.YtchmlndkbpgenaaGreatDoor
open Go Go.Proofs.Vai
def tab0 : List Int := [0, 0, 0, 0, 0, 0, 0, 0, 0, 1, 1, 1, 1, 1, 0, 0, 0, 0, 0, 0, 0, 0, 0, 0, 0, 0, 0, 0, 0, 0, 0, 0, 1, 0, 0, 0, 0, 0, 0, 0, 0, 0, 0, 0, 0, 0, 0, 0, 0, 0, 0, 0, 0, 0, 0, 0, 0, 0, 0, 0, 0, 0, 0, 0, 0, 0, 0, 0, 0, 0, 0, 0, 0, 0, 0, 0, 0, 0, 0, 0, 0, 0, 0, 0, 0, 0, 0, 0, 0, 0, 0, 0, 0, 0, 0, 0, 0, 0, 0, 0, 0, 0, 0, 0, 0, 0, 0, 0, 0, 0, 0, 0, 0, 0, 0, 0, 0, 0, 0, 0, 0, 0, 0, 0, 0, 0, 0, 0, 0, 0, 0, 0, 0, 0, 0, 0, 0, 0, 0, 0, 0, 0, 0, 0, 0, 0, 0, 0, 0, 0, 0, 0, 0, 0, 0, 0, 0, 0, 0, 0, 0, 0, 0, 0, 0, 0, 0, 0, 0, 0, 0, 0, 0, 0, 0, 0, 0, 0, 0, 0, 0, 0, 0, 0, 0, 0, 0, 0, 0, 0, 0, 0, 0, 0, 0, 0, 0, 0, 0, 0, 0, 0, 0, 0, 0, 0, 0, 0, 0, 0, 0, 0, 0, 0, 0, 0, 0, 0, 0, 0, 0, 0, 0, 0, 0, 0, 0, 0, 0, 0, 0, 0, 0, 0, 0, 0, 0, 0, 0, 0, 0, 0, 0, 0, 0, 0, 0, 0, 0, 0, 0, 0, 0, 0, 0, 0]
noncomputable def blocks : List ABlk := [.cells false 0 256 (.of (tab0.map fun z => .int .u8 z)), .cells false 0 0 (.few []), .cells false 0 0 (.few []), .cells false 0 0 (.few []), .cells false 0 0 (.few []), .cells false 0 0 (.few [])]
theorem ran : isT (run Tryz.prog 100000 (.call 3 [] none) AAct.none (vstart blocks)) = true := by kernel_rfl
end Go.Proofs.YtchmlndkbpgenaaGreatDoor
