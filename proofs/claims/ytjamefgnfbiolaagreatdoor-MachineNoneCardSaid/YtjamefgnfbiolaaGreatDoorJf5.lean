/- A closed fact of the program. No condition. -/
import Derived.Test.YtjamefgnfbiolaaGreatDoorRows
import Derived.JoinedOf
namespace Go.Proofs.YtjamefgnfbiolaaGreatDoor
open Go
theorem jf5 : laidOutB Tryz.pinned.checked.prog = true := by kernel_rfl
end Go.Proofs.YtjamefgnfbiolaaGreatDoor
