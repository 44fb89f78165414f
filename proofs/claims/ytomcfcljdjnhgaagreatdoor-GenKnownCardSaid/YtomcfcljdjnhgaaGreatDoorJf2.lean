/- A closed fact of the row: its cell unfollowed is what the program forces. No condition. -/
import Derived.Test.YtomcfcljdjnhgaaGreatDoorRows
namespace Go.Proofs.YtomcfcljdjnhgaaGreatDoor
open Go
theorem jf2 : (Rows.genKnownRow.unfollowed == Tryz.pinned.checked.prog.unfollowed 4) = true := by kernel_rfl
end Go.Proofs.YtomcfcljdjnhgaaGreatDoor
