/- A closed fact of the card. No condition. -/
import Derived.Test.YtjamefgnfbiolaaGreatDoorRows
import GoSem.ClaimSeven
namespace Go.Proofs.YtjamefgnfbiolaaGreatDoor
open Go
theorem cf1 : true = Tryz.pinned.checked.prog.looks [] := by kernel_rfl
end Go.Proofs.YtjamefgnfbiolaaGreatDoor
