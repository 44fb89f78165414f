/- A closed fact of the card. No condition. -/
import Derived.Test.YtomcfcljdjnhgaaGreatDoorRows
import GoSem.ClaimSeven
namespace Go.Proofs.YtomcfcljdjnhgaaGreatDoor
open Go
theorem cf1 : true = Tryz.pinned.checked.prog.looks [] := by kernel_rfl
end Go.Proofs.YtomcfcljdjnhgaaGreatDoor
