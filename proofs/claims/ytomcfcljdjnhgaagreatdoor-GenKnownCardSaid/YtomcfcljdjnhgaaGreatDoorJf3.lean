/- A closed fact of the row: its cell recurses is what the program forces. No condition. -/
import Derived.Test.YtomcfcljdjnhgaaGreatDoorRows
namespace Go.Proofs.YtomcfcljdjnhgaaGreatDoor
open Go
theorem jf3 : (Rows.genKnownRow.recurses == Tryz.pinned.checked.prog.recurses 4) = true := by kernel_rfl
end Go.Proofs.YtomcfcljdjnhgaaGreatDoor
