/- A closed fact of the program. No condition. -/
import Derived.Test.YtjamefgnfbiolaaGreatDoorRows
import Derived.JoinedOf
namespace Go.Proofs.YtjamefgnfbiolaaGreatDoor
open Go
theorem jf7 : (Tryz.pinned.checked.prog.stops == []) = true := by kernel_rfl
end Go.Proofs.YtjamefgnfbiolaaGreatDoor
