/- A closed fact of the program. No condition. -/
import Derived.Test.YtjamefgnfbiolaaGreatDoorRows
import Derived.JoinedOf
namespace Go.Proofs.YtjamefgnfbiolaaGreatDoor
open Go
theorem jf8 : (Tryz.pinned.checked.prog.stopKnobs == []) = true := by kernel_rfl
end Go.Proofs.YtjamefgnfbiolaaGreatDoor
