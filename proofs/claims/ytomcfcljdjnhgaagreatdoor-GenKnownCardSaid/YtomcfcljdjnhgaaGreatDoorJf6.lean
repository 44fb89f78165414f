/- A closed fact of the program. No condition. -/
import Derived.Test.YtomcfcljdjnhgaaGreatDoorRows
import Derived.JoinedOf
namespace Go.Proofs.YtomcfcljdjnhgaaGreatDoor
open Go
theorem jf6 : mapsRowed Tryz.pinned.checked.prog = true := by kernel_rfl
end Go.Proofs.YtomcfcljdjnhgaaGreatDoor
